/- Texts of the seat, put together: KnitWalk8, KnitWalk9, KnitWalk10, SortPlain, SortMem, SortWalk1, SortPlain2. -/
import Derived.Test.YtaacfjeddoekfaaTlKnitWalk7
import Derived.Test.YtaacfjeddoekfaaTl1
import Derived.Laws.OwnMore
import Derived.Deep.QuietTactic
import Derived.BigQuiet
import Derived.BigRegion
import Derived.RegionTactic
import Derived.Deep.LoopGhost
import Derived.Deep.DeepCutAuto
/- Chapter 11: Run; a machine that goes on behind what it refused. -/
namespace Go.Proofs.Ytaacfjeddoekfaa
open Go.RowKit
set_option linter.unusedVariables false
set_option linter.unusedSimpArgs false

abbrev Stitches := Els Sti.cells 5
theorem sti_cells {w : World} {S : Nat → Prop} {A : Option Addr} {l : List Sti} (hr : Row w S 5 A l.length (l.flatMap Sti.cells)) {k : Nat} (hk : k < l.length) :
    ∃ b o, A = some ⟨b, o, none⟩ ∧ S b ∧ w.cell? ⟨b, o + k * 5, none⟩ = some (.int .i64 l[k].d) ∧ w.cell? ⟨b, o + k * 5 + 1, none⟩ = some (.int .i64 l[k].b) ∧ w.cell? ⟨b, o + k * 5 + 2, none⟩ = some (.int .i64 l[k].n) ∧
      w.cell? ⟨b, o + k * 5 + 3, none⟩ = some (.int .i64 l[k].c) ∧ w.cell? ⟨b, o + k * 5 + 4, none⟩ = some (.int .i64 l[k].t) := by
  obtain ⟨b, o, e, hs, hc⟩ := els_at Sti.cells_len hr (by decide) hk
  exact ⟨b, o, e, hs, hc 0 _ rfl, hc 1 _ rfl, hc 2 _ rfl, hc 3 _ rfl, hc 4 _ rfl⟩
theorem srow_of {w : World} {S : Nat → Prop} {A : Option Addr} {n c : Nat} {l : List Sti} (h : Stitches w S (.slice A n c) l) : Row w S 5 A l.length (l.flatMap Sti.cells) := by
  obtain ⟨A', c', e, _, _, h⟩ := h
  cases e
  exact h
theorem stis_grown {w w' : World} {v : Value} {l : List Sti} (h : Stitches w (fun b => b < w.heap.size) v l) (hb : Below w.heap.size w w') : Stitches w' (fun b => b < w'.heap.size) v l :=
  (h.same (Same.of_below hb)).mono fun i hi => Nat.lt_of_lt_of_le hi hb.size

/-- one stitch, right or wrong -/
theorem Do_any {w0 w : World} {B p N : Nat} {k : KS} {m : MD} (h : MC w0 w B p N m k) (h' : TH w B m k.loops) (hN : N ≤ 128) (hi : Kinv N k) (x : Sti) :
    Calls Try.prog 26 #[ptr p 0, .agg x.cells.toArray] w fun e w' => e = .returned (.int .i64 (wrongK N k x)) ∧ MF w0 w' B p N (doK N k x) m w := by
  by_cases hw : wrongK N k x = 0
  · refine (Do_ok h h' hN hi x hw).mono fun e w' he => ?_
    unfold doK
    rw [if_pos hw, hw]
    exact he
  · refine (Do_bad ⟨m, h, h'⟩ hN hi x hw).mono fun e w' he => ?_
    unfold doK
    rw [if_neg hw]
    exact ⟨he.1, m, h.keep he.2.2, h'.keep he.2.2, .keep m he.2.2⟩
theorem MW.below {w0 w : World} {B p N : Nat} {k : KS} (h : MW w0 w B p N k) : Below B w0 w := by obtain ⟨m, h1, _⟩ := h; exact h1.below

set_option maxRecDepth 100000 in
set_option maxHeartbeats 2000000 in
theorem plainKnit_bad {S : Nat → Prop} {v : Value} {l : List Sti} (n : Int) (hn : n < 1 ∨ 128 < n) (w : World) (hv : Stitches w S v l) :
    Calls Try.prog 14 #[.int .i64 n, v] w fun e w' => e = .returned (.tuple #[nils, .agg #[nils, nils, nils, nils, .int .i64 0], .int .i64 3]) ∧ Below w.heap.size w w' := by
  have HA := Lib.hid (Arr.new w #[nils, nils, nils, nils, .int .i64 0] 27)
  have HB : Hid (Below w.heap.size w (w.alloc (.cells #[nils, nils, nils, nils, .int .i64 0] 27))) := (Below.refl _ _).alloc (Nat.le_refl _) _
  have HN := Lib.hid hn
  obtain ⟨A, c, rfl, h1, h2, hr⟩ := hv
  clear hr hn
  go_enter Try.func14, Try.ntmps14
  go_wp2_with fail
  refine (New_bad n HN.out _).mono ?_
  rintro e w1 ⟨rfl, rfl⟩
  have z0 := HA.out.free 0
  have z1 := HA.out.free 1
  have z2 := HA.out.free 2
  have z3 := HA.out.free 3
  have z4 := HA.out.free 4
  go_wp2_with fail
  exact bodyPost_ret (v := .tuple #[nils, .agg #[nils, nils, nils, nils, .int .i64 0], .int .i64 3]) (by simp [results, Try.results14, go_sem]) rfl ⟨rfl, HB.out⟩
end Go.Proofs.Ytaacfjeddoekfaa
/- Chapter 11: a machine that goes on behind what it refused; Run. -/
namespace Go.Proofs.Ytaacfjeddoekfaa
open Go.RowKit
set_option linter.unusedVariables false
set_option linter.unusedSimpArgs false

theorem own_of_eq {w w' : World} {base : Nat} {e : TypeId} {size n : Nat} {v : Value} {xs : List Value} (h : w.ownsRow base e size v n xs) (he : ∀ g, v.ownBlock = some g → w'.heap[g]? = w.heap[g]?) : w'.ownsRow base e size v n xs := by
  refine ⟨h.1, ?_⟩
  rcases h.2 with hn | ⟨g, cap, cur, rfl, hb, hgg, rest⟩
  · exact .inl hn
  · exact .inr ⟨g, cap, cur, rfl, hb, by rw [he g rfl]; exact hgg, rest⟩
section
variable {w0 w w1 : World} {B p N : Nat} {m : MD} {k : KS} {ls : List Lop}
theorem MC.foreign (h : MC w0 w B p N m k) (K : Kept m.own rX w w1) (hb : Below B w0 w1) : MC w0 w1 B p N m k :=
  ⟨hb, h.hB, K.arr h.arr (by rw [h.rp]; decide), h.pB, fun b hb' => ⟨K.arr (h.bed b hb').1 (by rw [h.rb b hb']; simp), (h.bed b hb').2⟩,
    K.row h.ol h.rl (by decide), K.row h.oo h.ro (by decide), fun b n => K.row (h.on b n) (h.rn b n) (by simp), h.rp, h.rb, h.rl, h.ro, h.rn⟩
theorem TH.foreign (h : TH w B m ls) (K : Kept m.own rX w w1) : TH w1 B m ls := fun i hi => ⟨K.row (h i hi).1 (h i hi).2 (by simp), (h i hi).2⟩
end
/-- a machine, and a row that is not its own -/
def PK (wA w : World) (p N : Nat) (k : KS) (out : Value) (es : List Int) : Prop := ∃ m, MC wA w wA.heap.size p N m k ∧ TH w wA.heap.size m k.loops ∧ w.ownsRow wA.heap.size 28 1 out es.length (ints es) ∧ Sep out rX m.own

set_option maxRecDepth 100000 in
set_option maxHeartbeats 4000000 in
theorem plainKnit_own {v : Value} {l : List Sti} (N : Nat) (hN1 : 1 ≤ N) (hN : N ≤ 128) (w : World) (hv : Stitches w (fun b => b < w.heap.size) v l) (hl : l.length ≤ 4000000000000) :
    Calls Try.prog 14 #[.int .i64 (N : Int), v] w fun e w' => ∃ u kv, e = .returned (.tuple #[u, kv, .int .i64 0]) ∧ Ints w' (fun b => w.heap.size ≤ b ∧ b < w'.heap.size) u (errsK N zeroK l) ∧ KnR w' (fun b => w.heap.size ≤ b ∧ b < w'.heap.size) kv (told N (afterK N l)) ∧ Below w.heap.size w w' := by
  have HV := Lib.hid hv
  have HA := Lib.hid (Arr.new w #[nils, nils, nils, nils, .int .i64 0] 27)
  have HB : Hid (Below w.heap.size w (w.alloc (.cells #[nils, nils, nils, nils, .int .i64 0] 27))) := (Below.refl _ _).alloc (Nat.le_refl _) _
  have hsA : (w.alloc (.cells #[nils, nils, nils, nils, .int .i64 0] 27)).heap.size = w.heap.size + 1 := by simp
  obtain ⟨A, c, rfl, h1, h2, hr⟩ := hv
  clear hr
  unfold maxLen at h2
  go_enter Try.func14, Try.ntmps14
  go_wp2_with fail
  generalize w.alloc (.cells #[nils, nils, nils, nils, .int .i64 0] 27) = wA at *
  have HSA := Lib.hid hsA
  clear hsA
  refine (New_ok N hN1 hN _).mono ?_
  rintro e w1 ⟨p, rfl, hmw⟩
  have HPK : Hid (PK wA w1 p N zeroK nils []) := by
    obtain ⟨m, h1, h2⟩ := hmw
    exact ⟨m, h1, h2, World.ownsRow_nil _ _ _ _, Sep.nil _ _⟩
  clear hmw
  go_wp2_with fail
  go_loopg [9, 27] l.length (fun gg out ctr wr => ∃ i : Nat, i ≤ l.length ∧ gg = l.length - i ∧ ctr = .int .i64 i ∧ PK wA wr p N (afterK N (l.take i)) out (errsK N zeroK (l.take i)))
  case atStart => exact ⟨0, by omega, rfl, rfl, HPK.out⟩
  case round =>
    clear HPK
    obtain ⟨i, hi, rfl, rfl, hpk⟩ := hrel
    by_cases hlt : i < l.length
    case neg =>
      obtain rfl : i = l.length := by omega
      rw [List.take_length] at hpk
      obtain ⟨m, hm, ht, ho, hs⟩ := hpk
      have HM := Lib.hid hm
      have HT := Lib.hid ht
      have HO := Lib.hid (Ints.of_own ho)
      obtain ⟨Ao, co, rfl, _, _⟩ := own_form ho
      clear hm ht ho hs
      go_wp2_with fail
      refine (State_any ⟨m, HM.out, HT.out⟩ hN (kinv_after N l)).mono ?_
      rintro e w3 ⟨kv, rfl, hk, hb3⟩
      have HK := Lib.hid hk
      obtain ⟨vl, vf, vb, vo, rfl, hl', hf', hb', ho'⟩ := hk
      obtain ⟨Aq, cq, tq, rfl, _⟩ := hl'
      obtain ⟨Af, cf, tf, rfl, _⟩ := hf'
      obtain ⟨Ab, cb, tb, rfl, _⟩ := hb'
      obtain ⟨Ap, cp, rfl, _⟩ := ho'
      have HB3 := Lib.hid hb3
      have HBW : Hid (Below w.heap.size w w3) := (HB.out.trans (HM.out.below.mono (by rw [HSA.out]; omega))).trans (hb3.mono (by have := HM.out.below.size; rw [HSA.out] at this; omega))
      have hrr : Arr w3 w.heap.size 27 [nils, nils, nils, nils, .int .i64 0] := (HA.out.of_eq (HM.out.below.block _ (by rw [HSA.out]; omega))).of_eq (hb3.block _ (by have := HM.out.below.size; rw [HSA.out] at this; omega))
      have hlw : w.heap.size < wr.heap.size := by have := HM.out.below.size; rw [HSA.out] at this; omega
      clear hb3
      have r0 := hrr.cell (k := 0) rfl
      have r1 := hrr.cell (k := 1) rfl
      have r2 := hrr.cell (k := 2) rfl
      have r3 := hrr.cell (k := 3) rfl
      have r4 := hrr.cell (k := 4) rfl
      have f0 := hrr.free 0
      have f1 := hrr.free 1
      have f2 := hrr.free 2
      have f3 := hrr.free 3
      have f4 := hrr.free 4
      generalize hkn : told N (afterK N l) = kn at *
      have HKN := Lib.hid hkn
      clear hkn
      have hq := ((((hrr.set 0 (.slice Aq kn.loops.length cq)).set 1 (.slice Af kn.front.length cf)).set 2 (.slice Ab kn.back.length cb)).set 3 (.slice Ap kn.loose.length cp)).set 4 (.int .i64 kn.rack)
      have q0 := hq.cell (k := 0) rfl
      have q1 := hq.cell (k := 1) rfl
      have q2 := hq.cell (k := 2) rfl
      have q3 := hq.cell (k := 3) rfl
      have q4 := hq.cell (k := 4) rfl
      have HBF := Lib.hid (((((HBW.out.setCell (p := ⟨w.heap.size, 0, none⟩) (Nat.le_refl _) (.slice Aq kn.loops.length cq)).setCell (p := ⟨w.heap.size, 1, none⟩) (Nat.le_refl _) (.slice Af kn.front.length cf)).setCell (p := ⟨w.heap.size, 2, none⟩) (Nat.le_refl _) (.slice Ab kn.back.length cb)).setCell (p := ⟨w.heap.size, 3, none⟩) (Nat.le_refl _) (.slice Ap kn.loose.length cp)).setCell (p := ⟨w.heap.size, 4, none⟩) (Nat.le_refl _) (.int .i64 kn.rack))
      have HFAR : Hid (∀ b, b ≠ w.heap.size → (((((w3.setCell ⟨w.heap.size, 0, none⟩ (.slice Aq kn.loops.length cq)).setCell ⟨w.heap.size, 1, none⟩ (.slice Af kn.front.length cf)).setCell ⟨w.heap.size, 2, none⟩ (.slice Ab kn.back.length cb)).setCell ⟨w.heap.size, 3, none⟩ (.slice Ap kn.loose.length cp)).setCell ⟨w.heap.size, 4, none⟩ (.int .i64 kn.rack)).heap[b]? = w3.heap[b]?) := fun b hb =>
        ((((Below.heap_setCell _ _ _ _ hb).trans (Below.heap_setCell _ _ _ _ hb)).trans (Below.heap_setCell _ _ _ _ hb)).trans (Below.heap_setCell _ _ _ _ hb)).trans (Below.heap_setCell _ _ _ _ hb)
      have HSZ : Hid ((((((w3.setCell ⟨w.heap.size, 0, none⟩ (.slice Aq kn.loops.length cq)).setCell ⟨w.heap.size, 1, none⟩ (.slice Af kn.front.length cf)).setCell ⟨w.heap.size, 2, none⟩ (.slice Ab kn.back.length cb)).setCell ⟨w.heap.size, 3, none⟩ (.slice Ap kn.loose.length cp)).setCell ⟨w.heap.size, 4, none⟩ (.int .i64 kn.rack)).heap.size = w3.heap.size) := by show _ = _; simp [World.setCell]
      clear hrr hq
      go_wp2_with fail
      refine bodyPost_ret (v := .tuple #[.slice Ao (errsK N zeroK l).length co, .agg #[.slice Aq kn.loops.length cq, .slice Af kn.front.length cf, .slice Ab kn.back.length cb, .slice Ap kn.loose.length cp, .int .i64 kn.rack], .int .i64 0]) (by simp [results, Try.results14, go_sem, q0, q1, q2, q3, q4]) rfl ⟨_, _, rfl, ?_, ?_, HBF.out⟩
      · refine ((HO.out.same fun b hb => HB3.out.block b hb.2).same fun b hb => HFAR.out b (by have := hb.1; rw [HSA.out] at this; omega)).mono fun b hb => ⟨by have := hb.1; rw [HSA.out] at this; omega, by rw [HSZ.out]; exact Nat.lt_of_lt_of_le hb.2 HB3.out.size⟩
      · rw [HKN.out]
        refine (HK.out.same fun b hb => HFAR.out b (by have := hb.1; omega)).mono fun b hb => ⟨by have := hb.1; omega, by rw [HSZ.out]; exact hb.2⟩
    obtain ⟨m, hm, ht, ho, hs⟩ := hpk
    have HBW : Hid (Below w.heap.size w wr) := HB.out.trans (hm.below.mono (by rw [HSA.out]; omega))
    obtain ⟨b, o, e, hbb, x0, x1, x2, x3, x4⟩ := sti_cells (srow_of (HV.out.same (Same.of_below HBW.out))) hlt
    cases e
    have hbw : b < wr.heap.size := Nat.lt_of_lt_of_le hbb HBW.out.size
    have HE : Hid (errsK N zeroK (l.take (i + 1)) = errsK N zeroK (l.take i) ++ [wrongK N (afterK N (l.take i)) l[i]] ∧ afterK N (l.take (i + 1)) = doK N (afterK N (l.take i)) l[i]) := ⟨errsK_take hlt, afterK_take hlt⟩
    have HKI := Lib.hid (kinv_after N (l.take i))
    have hel : (errsK N zeroK (l.take i)).length = i := by rw [errsK_len, List.length_take]; omega
    generalize l[i] = x at *
    generalize afterK N (l.take i) = k at *
    generalize errsK N zeroK (l.take i) = es at *
    have HAL : Hid (Below wr.heap.size wr (wr.alloc (.cells #[.int .i64 x.d, .int .i64 x.b, .int .i64 x.n, .int .i64 x.c, .int .i64 x.t] 44))) := (Below.refl _ _).alloc (Nat.le_refl _) _
    have HM := Lib.hid (hm.keep HAL.out)
    have HT := Lib.hid (ht.keep HAL.out)
    have HO := Lib.hid (own_al ho (.cells #[.int .i64 x.d, .int .i64 x.b, .int .i64 x.n, .int .i64 x.c, .int .i64 x.t] 44))
    have HS := Lib.hid hs
    clear hm ht ho hs
    go_wp2_with fail
    refine (Do_any HM.out HT.out hN HKI.out x).mono ?_
    rintro e w3 ⟨rfl, m', hm', ht', hf⟩
    have HO3 : Hid (w3.ownsRow wA.heap.size 28 1 u9 es.length (ints es)) := own_of_eq HO.out fun g hg => (hf.2 g (HO.out.lt g hg).2 (HS.out g hg)).2
    have HS3 : Hid (Sep u9 rX m'.own) := fun g hg => (hf.2 g (HO.out.lt g hg).2 (HS.out g hg)).1
    have HM3 := Lib.hid (hm'.other (g := w3.heap.size + 1) (Nat.le_succ _))
    have HT3 := Lib.hid (ht'.other (g := w3.heap.size + 1) (Nat.le_succ _))
    clear hm' ht' hf
    generalize wrongK N k x = er at *
    go_wp2_with (at_builtin
                 refine app_el T34 [.int .i64 er] HO3.out HM3.out.below (Nat.le_refl _) rfl rfl rfl rfl rfl ?_ ?_ ?_
                 rotate_right
                 intro v1 w5 hown1 hb1 hg1 ho1
                 have HF := Lib.hid (And.intro hown1 (And.intro hb1 (And.intro hg1 ho1)))
                 clear hown1 hb1 hg1 ho1)
    case refine_1 => simp [Value.oneCell']
    case refine_2 => omega
    go_roundg (l.length - (i + 1))
    case measure => omega
    case rel =>
      have K : Kept (ow m'.own (w3.heap.size + 1) rX) rX w3 _ := .of_grown HF.out.2.2.1 fun g hg => by
        rw [ow_ne _ _ (by have := (HO3.out.lt g hg).2; omega)]; exact HS3.out g hg
      refine ⟨i + 1, by omega, rfl, by go_num, { m' with own := ow m'.own (w3.heap.size + 1) rX }, ?_, ?_, ?_, ?_⟩
      · rw [HE.out.2]; exact HM3.out.foreign K HF.out.2.1
      · rw [HE.out.2]; exact HT3.out.foreign K
      · rw [HE.out.1, List.length_append, List.length_singleton, ints_app]; exact HF.out.1
      · exact HS3.out.app HO3.out (Nat.le_succ _) HF.out.2.2.2

theorem plainKnit_ok {v : Value} {l : List Sti} (N : Nat) (hN1 : 1 ≤ N) (hN : N ≤ 128) (w : World) (hv : Stitches w (fun b => b < w.heap.size) v l) (hl : l.length ≤ 4000000000000) :
    Calls Try.prog 14 #[.int .i64 (N : Int), v] w fun e w' => ∃ u kv, e = .returned (.tuple #[u, kv, .int .i64 0]) ∧ Ints w' (fun b => b < w'.heap.size) u (errsK N zeroK l) ∧ KnR w' (fun b => b < w'.heap.size) kv (told N (afterK N l)) ∧ Below w.heap.size w w' :=
  (plainKnit_own N hN1 hN w hv hl).mono fun e w' ⟨u, kv, h1, h2, h3, h4⟩ => ⟨u, kv, h1, h2.mono fun b hb => hb.2, h3.mono fun b hb => hb.2, h4⟩

set_option maxRecDepth 100000 in
set_option maxHeartbeats 2000000 in
theorem Run_range {S : Nat → Prop} {v : Value} {l : List Sti} (n : Int) (hn : n < 1 ∨ 128 < n) (w : World) (hv : Stitches w S v l) :
    Calls Try.prog 11 #[.int .i64 n, v] w fun e w' => e = .returned (.tuple #[.agg #[nils, nils, nils, nils, .int .i64 0], .agg #[.int .i64 3, .int .i64 0]]) ∧ Below w.heap.size w w' := by
  have HB : Hid (∀ o, Below w.heap.size w ((w.alloc (.cells #[nils, nils, nils, nils, .int .i64 0] 27)).alloc o)) := fun o => ((Below.refl _ _).alloc (Nat.le_refl _) _).alloc (by simp) _
  have HA := Lib.hid ((Arr.new w #[nils, nils, nils, nils, .int .i64 0] 27).alloc (.cells #[.int .i64 0, .int .i64 0] 30))
  have HA2 := Lib.hid (arr_new2 w (.cells #[nils, nils, nils, nils, .int .i64 0] 27) #[.int .i64 0, .int .i64 0] 30)
  have HN := Lib.hid hn
  obtain ⟨A, c, rfl, h1, h2, hr⟩ := hv
  clear hr hn
  go_enter Try.func11, Try.ntmps11
  go_wp2_with fail
  refine (New_bad n HN.out _).mono ?_
  rintro e w1 ⟨rfl, rfl⟩
  go_wp2_with fail
  exact bodyPost_ret (v := .tuple #[.agg #[nils, nils, nils, nils, .int .i64 0], .agg #[.int .i64 3, .int .i64 0]]) (by simp [results, Try.results11, go_sem]) rfl ⟨rfl, HB.out _⟩

end Go.Proofs.Ytaacfjeddoekfaa
/- Chapter 11: Run. -/
namespace Go.Proofs.Ytaacfjeddoekfaa
open Go.RowKit
set_option linter.unusedVariables false
set_option linter.unusedSimpArgs false

set_option maxRecDepth 100000 in
set_option maxHeartbeats 4000000 in
theorem Run_ok {v : Value} {l : List Sti} (N : Nat) (hN1 : 1 ≤ N) (hN : N ≤ 128) (w : World) (hv : Stitches w (fun b => b < w.heap.size) v l) :
    Calls Try.prog 11 #[.int .i64 (N : Int), v] w fun e w' => ∃ kv, e = .returned (.tuple #[kv, .agg #[.int .i64 (runF N l).1, .int .i64 (runF N l).2]]) ∧ KnR w' (fun b => b < w'.heap.size) kv (runK N l) ∧ Below w.heap.size w w' := by
  have HV := Lib.hid hv
  have HA := Lib.hid ((Arr.new w #[nils, nils, nils, nils, .int .i64 0] 27).alloc (.cells #[.int .i64 0, .int .i64 0] 30))
  have HA2 := Lib.hid (arr_new2 w (.cells #[nils, nils, nils, nils, .int .i64 0] 27) #[.int .i64 0, .int .i64 0] 30)
  have HB : Hid (Below w.heap.size w ((w.alloc (.cells #[nils, nils, nils, nils, .int .i64 0] 27)).alloc (.cells #[.int .i64 0, .int .i64 0] 30))) := ((Below.refl _ _).alloc (Nat.le_refl _) _).alloc (by simp) _
  have hsA : ((w.alloc (.cells #[nils, nils, nils, nils, .int .i64 0] 27)).alloc (.cells #[.int .i64 0, .int .i64 0] 30)).heap.size = w.heap.size + 2 := by simp
  obtain ⟨A, c, rfl, h1, h2, hr⟩ := hv
  clear hr
  unfold maxLen at h2
  go_enter Try.func11, Try.ntmps11
  go_wp2_with fail
  generalize (w.alloc (.cells #[nils, nils, nils, nils, .int .i64 0] 27)).alloc (.cells #[.int .i64 0, .int .i64 0] 30) = wA at *
  have HSA := Lib.hid hsA
  clear hsA
  refine (New_ok N hN1 hN _).mono ?_
  rintro e w1 ⟨p, rfl, hmw⟩
  have HMW := Lib.hid hmw
  clear hmw
  go_wp2_with fail
  go_loopg [23] l.length (fun gg ctr wr => ∃ i : Nat, i ≤ l.length ∧ gg = l.length - i ∧ ctr = .int .i64 i ∧ MW wA wr wA.heap.size p N (afterK N (l.take i)) ∧ Fine N l i)
  case atStart => exact ⟨0, by omega, rfl, rfl, HMW.out, fun j hj h => by omega⟩
  case round =>
    clear HMW
    obtain ⟨i, hi, rfl, rfl, hmw, hfine⟩ := hrel
    have HMW := Lib.hid hmw
    have HFI := Lib.hid hfine
    clear hmw hfine
    have HBW : Hid (Below w.heap.size w wr) := HB.out.trans (HMW.out.below.mono (by rw [HSA.out]; omega))
    by_cases hlt : i < l.length
    case neg =>
      obtain rfl : i = l.length := by omega
      rw [List.take_length] at HMW
      have HRES : Hid (runF N l = (0, 0) ∧ runK N l = told N (afterK N l)) := by
        have := HFI.out.none
        show _ ∧ _
        unfold runF runK
        rw [this]
        exact ⟨rfl, rfl⟩
      go_wp2_with fail
      refine (State_any HMW.out hN (kinv_after N l)).mono ?_
      rintro e w3 ⟨kv, rfl, hk, hb3⟩
      have HK := Lib.hid hk
      obtain ⟨vl, vf, vb, vo, rfl, hl', hf', hb', ho'⟩ := hk
      obtain ⟨Aq, cq, tq, rfl, _⟩ := hl'
      obtain ⟨Af, cf, tf, rfl, _⟩ := hf'
      obtain ⟨Ab, cb, tb, rfl, _⟩ := hb'
      obtain ⟨Ap, cp, rfl, _⟩ := ho'
      have hlw : w.heap.size + 2 ≤ wr.heap.size := by have := HMW.out.below.size; rw [HSA.out] at this; omega
      have HB3 : Hid (Below w.heap.size w w3) := HBW.out.trans (hb3.mono (by omega))
      have hrr : Arr w3 w.heap.size 27 [nils, nils, nils, nils, .int .i64 0] := (HA.out.of_eq (HMW.out.below.block _ (by rw [HSA.out]; omega))).of_eq (hb3.block _ (by omega))
      have hr2 : Arr w3 (w.heap.size + 1) 30 [.int .i64 0, .int .i64 0] := (HA2.out.of_eq (HMW.out.below.block _ (by rw [HSA.out]; omega))).of_eq (hb3.block _ (by omega))
      clear hb3
      generalize hkn : told N (afterK N l) = kn at *
      have HKN := Lib.hid hkn
      clear hkn
      have r0 := hrr.cell (k := 0) rfl
      have r1 := hrr.cell (k := 1) rfl
      have r2 := hrr.cell (k := 2) rfl
      have r3 := hrr.cell (k := 3) rfl
      have r4 := hrr.cell (k := 4) rfl
      have f0 := hrr.free 0
      have f1 := hrr.free 1
      have f2 := hrr.free 2
      have f3 := hrr.free 3
      have f4 := hrr.free 4
      have s0 := hr2.cell (k := 0) rfl
      have s1 := hr2.cell (k := 1) rfl
      have g0 := hr2.free 0
      have g1 := hr2.free 1
      have hq := (((((hrr.set 0 (.slice Aq kn.loops.length cq)).set 1 (.slice Af kn.front.length cf)).set 2 (.slice Ab kn.back.length cb)).set 3 (.slice Ap kn.loose.length cp)).set 4 (.int .i64 kn.rack))
      have hq2 := ((((((hr2.far (p := ⟨w.heap.size, 0, none⟩) (by show w.heap.size + 1 ≠ w.heap.size; omega) (.slice Aq kn.loops.length cq)).far (p := ⟨w.heap.size, 1, none⟩) (by show w.heap.size + 1 ≠ w.heap.size; omega) (.slice Af kn.front.length cf)).far (p := ⟨w.heap.size, 2, none⟩) (by show w.heap.size + 1 ≠ w.heap.size; omega) (.slice Ab kn.back.length cb)).far (p := ⟨w.heap.size, 3, none⟩) (by show w.heap.size + 1 ≠ w.heap.size; omega) (.slice Ap kn.loose.length cp)).far (p := ⟨w.heap.size, 4, none⟩) (by show w.heap.size + 1 ≠ w.heap.size; omega) (.int .i64 kn.rack)).set 0 (.int .i64 0)).set 1 (.int .i64 0)
      have hq1 := (hq.far (p := ⟨w.heap.size + 1, 0, none⟩) (by show w.heap.size ≠ w.heap.size + 1; omega) (.int .i64 0)).far (p := ⟨w.heap.size + 1, 1, none⟩) (by show w.heap.size ≠ w.heap.size + 1; omega) (.int .i64 0)
      have q0 := hq1.cell (k := 0) rfl
      have q1 := hq1.cell (k := 1) rfl
      have q2 := hq1.cell (k := 2) rfl
      have q3 := hq1.cell (k := 3) rfl
      have q4 := hq1.cell (k := 4) rfl
      have q5 := hq2.cell (k := 0) rfl
      have q6 := hq2.cell (k := 1) rfl
      have HBF := Lib.hid (((((((HB3.out.setCell (p := ⟨w.heap.size, 0, none⟩) (Nat.le_refl _) (.slice Aq kn.loops.length cq)).setCell (p := ⟨w.heap.size, 1, none⟩) (Nat.le_refl _) (.slice Af kn.front.length cf)).setCell (p := ⟨w.heap.size, 2, none⟩) (Nat.le_refl _) (.slice Ab kn.back.length cb)).setCell (p := ⟨w.heap.size, 3, none⟩) (Nat.le_refl _) (.slice Ap kn.loose.length cp)).setCell (p := ⟨w.heap.size, 4, none⟩) (Nat.le_refl _) (.int .i64 kn.rack)).setCell (p := ⟨w.heap.size + 1, 0, none⟩) (Nat.le_succ _) (.int .i64 0)).setCell (p := ⟨w.heap.size + 1, 1, none⟩) (Nat.le_succ _) (.int .i64 0))
      have HFAR : Hid (∀ b, b ≠ w.heap.size → b ≠ w.heap.size + 1 → (((((((w3.setCell ⟨w.heap.size, 0, none⟩ (.slice Aq kn.loops.length cq)).setCell ⟨w.heap.size, 1, none⟩ (.slice Af kn.front.length cf)).setCell ⟨w.heap.size, 2, none⟩ (.slice Ab kn.back.length cb)).setCell ⟨w.heap.size, 3, none⟩ (.slice Ap kn.loose.length cp)).setCell ⟨w.heap.size, 4, none⟩ (.int .i64 kn.rack)).setCell ⟨w.heap.size + 1, 0, none⟩ (.int .i64 0)).setCell ⟨w.heap.size + 1, 1, none⟩ (.int .i64 0)).heap[b]? = w3.heap[b]?) := fun b hb hb2 =>
        (((((((Below.heap_setCell _ _ _ _ hb2).trans (Below.heap_setCell _ _ _ _ hb2)).trans (Below.heap_setCell _ _ _ _ hb)).trans (Below.heap_setCell _ _ _ _ hb)).trans (Below.heap_setCell _ _ _ _ hb)).trans (Below.heap_setCell _ _ _ _ hb)).trans (Below.heap_setCell _ _ _ _ hb))
      have HSZ : Hid ((((((((w3.setCell ⟨w.heap.size, 0, none⟩ (.slice Aq kn.loops.length cq)).setCell ⟨w.heap.size, 1, none⟩ (.slice Af kn.front.length cf)).setCell ⟨w.heap.size, 2, none⟩ (.slice Ab kn.back.length cb)).setCell ⟨w.heap.size, 3, none⟩ (.slice Ap kn.loose.length cp)).setCell ⟨w.heap.size, 4, none⟩ (.int .i64 kn.rack)).setCell ⟨w.heap.size + 1, 0, none⟩ (.int .i64 0)).setCell ⟨w.heap.size + 1, 1, none⟩ (.int .i64 0)).heap.size = w3.heap.size) := by show _ = _; simp [World.setCell]
      clear hrr hr2 hq hq1 hq2
      go_wp2_with fail
      refine bodyPost_ret (v := .tuple #[.agg #[.slice Aq kn.loops.length cq, .slice Af kn.front.length cf, .slice Ab kn.back.length cb, .slice Ap kn.loose.length cp, .int .i64 kn.rack], .agg #[.int .i64 0, .int .i64 0]]) (by simp [results, Try.results11, go_sem, q0, q1, q2, q3, q4, q5, q6]) rfl ⟨_, by rw [HRES.out.1], ?_, HBF.out⟩
      rw [HRES.out.2]
      refine (HK.out.same fun b hb => HFAR.out b (by have := hb.1; omega) (by have := hb.1; omega)).mono fun b hb => by rw [HSZ.out]; exact hb.2
    have hpk := HMW.out
    obtain ⟨m, hm, ht⟩ := hpk
    obtain ⟨b, o, e, hbb, x0, x1, x2, x3, x4⟩ := sti_cells (srow_of (HV.out.same (Same.of_below HBW.out))) hlt
    cases e
    have hbw : b < wr.heap.size := Nat.lt_of_lt_of_le hbb HBW.out.size
    have HAF : Hid (afterK N (l.take (i + 1)) = doK N (afterK N (l.take i)) l[i]) := afterK_take hlt
    have HKI := Lib.hid (kinv_after N (l.take i))
    have HBAD : Hid (wrongK N (afterK N (l.take i)) l[i] ≠ 0 → runF N l = (wrongK N (afterK N (l.take i)) l[i], (i : Int)) ∧ runK N l = noKn) := fun hn => by
      have := HFI.out.bad hlt hn
      unfold runF runK
      rw [this]
      exact ⟨rfl, rfl⟩
    have HGOOD : Hid (wrongK N (afterK N (l.take i)) l[i] = 0 → Fine N l (i + 1)) := fun hn => HFI.out.next hlt hn
    generalize l[i] = x at *
    generalize afterK N (l.take i) = k at *
    have HM := Lib.hid (hm.keep ((Below.refl _ _).alloc (Nat.le_refl _) (.cells #[.int .i64 x.d, .int .i64 x.b, .int .i64 x.n, .int .i64 x.c, .int .i64 x.t] 44)))
    have HT := Lib.hid (ht.keep ((Below.refl _ _).alloc (Nat.le_refl _) (.cells #[.int .i64 x.d, .int .i64 x.b, .int .i64 x.n, .int .i64 x.c, .int .i64 x.t] 44)))
    clear hm ht HMW
    go_wp2_with fail
    refine (Do_any HM.out HT.out hN HKI.out x).mono ?_
    rintro e w3 ⟨rfl, m', hm', ht', hf⟩
    have HM3 : Hid (MW wA w3 wA.heap.size p N (doK N k x)) := ⟨m', hm', ht'⟩
    clear hm' ht' hf
    by_cases hz : wrongK N k x = 0
    · rw [hz]
      have HG := Lib.hid (HGOOD.out hz)
      clear hz
      go_wp2_with fail
      go_roundg (l.length - (i + 1))
      case measure => omega
      case rel => exact ⟨i + 1, by omega, rfl, by go_num, by rw [HAF.out]; exact HM3.out, HG.out⟩
    · have HR := Lib.hid (HBAD.out hz)
      have hzb : (wrongK N k x != 0) = true := by simpa using hz
      clear hz HBAD HGOOD
      generalize wrongK N k x = er at *
      have hlw : w.heap.size + 2 ≤ w3.heap.size := by have := HM3.out.below.size; rw [HSA.out] at this; omega
      have HB3 : Hid (Below w.heap.size w w3) := HB.out.trans (HM3.out.below.mono (by rw [HSA.out]; omega))
      have hrr : Arr w3 w.heap.size 27 [nils, nils, nils, nils, .int .i64 0] := HA.out.of_eq (HM3.out.below.block _ (by rw [HSA.out]; omega))
      have hr2 : Arr w3 (w.heap.size + 1) 30 [.int .i64 0, .int .i64 0] := HA2.out.of_eq (HM3.out.below.block _ (by rw [HSA.out]; omega))
      have r0 := hrr.cell (k := 0) rfl
      have r1 := hrr.cell (k := 1) rfl
      have r2 := hrr.cell (k := 2) rfl
      have r3 := hrr.cell (k := 3) rfl
      have r4 := hrr.cell (k := 4) rfl
      have f0 := hrr.free 0
      have f1 := hrr.free 1
      have f2 := hrr.free 2
      have f3 := hrr.free 3
      have f4 := hrr.free 4
      have s0 := hr2.cell (k := 0) rfl
      have s1 := hr2.cell (k := 1) rfl
      have g0 := hr2.free 0
      have g1 := hr2.free 1
      have hq := (((((hrr.set 0 nils).set 1 nils).set 2 nils).set 3 nils).set 4 (.int .i64 0))
      have hq2 := ((((((hr2.far (p := ⟨w.heap.size, 0, none⟩) (by show w.heap.size + 1 ≠ w.heap.size; omega) nils).far (p := ⟨w.heap.size, 1, none⟩) (by show w.heap.size + 1 ≠ w.heap.size; omega) nils).far (p := ⟨w.heap.size, 2, none⟩) (by show w.heap.size + 1 ≠ w.heap.size; omega) nils).far (p := ⟨w.heap.size, 3, none⟩) (by show w.heap.size + 1 ≠ w.heap.size; omega) nils).far (p := ⟨w.heap.size, 4, none⟩) (by show w.heap.size + 1 ≠ w.heap.size; omega) (.int .i64 0)).set 0 (.int .i64 er)).set 1 (.int .i64 (i : Int))
      have hq1 := (hq.far (p := ⟨w.heap.size + 1, 0, none⟩) (by show w.heap.size ≠ w.heap.size + 1; omega) (.int .i64 er)).far (p := ⟨w.heap.size + 1, 1, none⟩) (by show w.heap.size ≠ w.heap.size + 1; omega) (.int .i64 (i : Int))
      have q0 := hq1.cell (k := 0) rfl
      have q1 := hq1.cell (k := 1) rfl
      have q2 := hq1.cell (k := 2) rfl
      have q3 := hq1.cell (k := 3) rfl
      have q4 := hq1.cell (k := 4) rfl
      have q5 := hq2.cell (k := 0) rfl
      have q6 := hq2.cell (k := 1) rfl
      have HBF := Lib.hid (((((((HB3.out.setCell (p := ⟨w.heap.size, 0, none⟩) (Nat.le_refl _) nils).setCell (p := ⟨w.heap.size, 1, none⟩) (Nat.le_refl _) nils).setCell (p := ⟨w.heap.size, 2, none⟩) (Nat.le_refl _) nils).setCell (p := ⟨w.heap.size, 3, none⟩) (Nat.le_refl _) nils).setCell (p := ⟨w.heap.size, 4, none⟩) (Nat.le_refl _) (.int .i64 0)).setCell (p := ⟨w.heap.size + 1, 0, none⟩) (Nat.le_succ _) (.int .i64 er)).setCell (p := ⟨w.heap.size + 1, 1, none⟩) (Nat.le_succ _) (.int .i64 (i : Int)))
      have HFAR : Hid (∀ b, b ≠ w.heap.size → b ≠ w.heap.size + 1 → (((((((w3.setCell ⟨w.heap.size, 0, none⟩ nils).setCell ⟨w.heap.size, 1, none⟩ nils).setCell ⟨w.heap.size, 2, none⟩ nils).setCell ⟨w.heap.size, 3, none⟩ nils).setCell ⟨w.heap.size, 4, none⟩ (.int .i64 0)).setCell ⟨w.heap.size + 1, 0, none⟩ (.int .i64 er)).setCell ⟨w.heap.size + 1, 1, none⟩ (.int .i64 (i : Int))).heap[b]? = w3.heap[b]?) := fun b hb hb2 =>
        (((((((Below.heap_setCell _ _ _ _ hb2).trans (Below.heap_setCell _ _ _ _ hb2)).trans (Below.heap_setCell _ _ _ _ hb)).trans (Below.heap_setCell _ _ _ _ hb)).trans (Below.heap_setCell _ _ _ _ hb)).trans (Below.heap_setCell _ _ _ _ hb)).trans (Below.heap_setCell _ _ _ _ hb))
      have HSZ : Hid ((((((((w3.setCell ⟨w.heap.size, 0, none⟩ nils).setCell ⟨w.heap.size, 1, none⟩ nils).setCell ⟨w.heap.size, 2, none⟩ nils).setCell ⟨w.heap.size, 3, none⟩ nils).setCell ⟨w.heap.size, 4, none⟩ (.int .i64 0)).setCell ⟨w.heap.size + 1, 0, none⟩ (.int .i64 er)).setCell ⟨w.heap.size + 1, 1, none⟩ (.int .i64 (i : Int))).heap.size = w3.heap.size) := by show _ = _; simp [World.setCell]
      clear hrr hr2 hq hq1 hq2
      go_wp2_with fail
      refine bodyPost_ret (v := .tuple #[.agg #[nils, nils, nils, nils, .int .i64 0], .agg #[.int .i64 er, .int .i64 (i : Int)]]) (by simp [results, Try.results11, go_sem, q0, q1, q2, q3, q4, q5, q6]) rfl ⟨_, by rw [HR.out.1], ?_, HBF.out⟩
      rw [HR.out.2]
      exact noKn_R _ _
end Go.Proofs.Ytaacfjeddoekfaa
/- Sorting in place, plain: what stands where, as a function of the place. -/
namespace Go.Proofs.Ytaacfjeddoekfaa
set_option linter.unusedVariables false

/-- places i and j exchanged -/
def swp (f : Nat → Int) (i j : Nat) : Nat → Int := fun k => if k = i then f j else if k = j then f i else f k
/-- n places from a on exchanged with those from b on -/
def swpR (f : Nat → Int) (a b n : Nat) : Nat → Int := fun k => if a ≤ k ∧ k < a + n then f (k - a + b) else if b ≤ k ∧ k < b + n then f (k - b + a) else f k
theorem swpR_zero (f : Nat → Int) (a b : Nat) : swpR f a b 0 = f := by
  funext k
  unfold swpR
  rw [if_neg (by omega), if_neg (by omega)]
theorem swpR_succ (f : Nat → Int) {a b n : Nat} (h : a + n < b) : swp (swpR f a b n) (a + n) (b + n) = swpR f a b (n + 1) := by
  funext k
  unfold swp swpR
  by_cases h1 : k = a + n
  · subst h1
    rw [if_pos rfl, if_neg (by omega), if_neg (by omega), if_pos (by omega)]
    congr 1; omega
  · rw [if_neg h1]
    by_cases h2 : k = b + n
    · subst h2
      rw [if_pos rfl, if_neg (by omega), if_neg (by omega), if_neg (by omega), if_pos (by omega)]
      congr 1; omega
    · rw [if_neg h2]
      by_cases h3 : a ≤ k ∧ k < a + n
      · rw [if_pos h3, if_pos (by omega)]
      · rw [if_neg h3, if_neg (show ¬ (a ≤ k ∧ k < a + (n + 1)) by omega)]
        by_cases h4 : b ≤ k ∧ k < b + n
        · rw [if_pos h4, if_pos (by omega)]
        · rw [if_neg h4, if_neg (by omega)]
/-- what stands in [a, m) goes behind what stands in [m, b) -/
def rot (f : Nat → Int) (a m b : Nat) : Nat → Int := fun k => if a ≤ k ∧ k < a + (b - m) then f (k + (m - a)) else if a + (b - m) ≤ k ∧ k < b then f (k - (b - m)) else f k
theorem rot_gt (f : Nat → Int) {m i j : Nat} (hi : i ≤ m) (hij : j < i) : rot (swpR f (m - i) m j) (m - (i - j)) m (m + j) = rot f (m - i) m (m + j) := by
  funext k
  unfold rot swpR
  rw [show m + j - m = j by omega, show m - (m - (i - j)) = i - j by omega, show m - (m - i) = i by omega]
  by_cases h1 : m - i ≤ k ∧ k < m - i + j
  · rw [if_neg (by omega), if_neg (show ¬ (m - (i - j) + j ≤ k ∧ k < m + j) by omega), if_pos h1, if_pos h1]
    congr 1; omega
  · rw [if_neg (show ¬ (m - i ≤ k ∧ k < m - i + j) by omega)]
    by_cases h2 : m - i + j ≤ k ∧ k < m + j
    · rw [if_pos (show m - i + j ≤ k ∧ k < m + j by omega)]
      by_cases h3 : m - (i - j) ≤ k ∧ k < m - (i - j) + j
      · rw [if_pos h3]
        by_cases h4 : m ≤ k + (i - j) ∧ k + (i - j) < m + j
        · rw [if_neg (by omega), if_pos h4, if_neg h1]; congr 1; omega
        · exact absurd h3 (by omega)
      · rw [if_neg h3, if_pos (by omega)]
        by_cases h4 : m ≤ k - j ∧ k - j < m + j
        · exact absurd h2 (by omega)
        · rw [if_neg h4]
          by_cases h5 : m - i ≤ k - j ∧ k - j < m - i + j
          · exact absurd h3 (by omega)
          · rw [if_neg h5, if_neg h1]
    · rw [if_neg h2, if_neg (by omega), if_neg (by omega), if_neg (by omega), if_neg (by omega)]
theorem rot_lt (f : Nat → Int) {m i j : Nat} (hi : i ≤ m) (hij : i < j) : rot (swpR f (m - i) (m + j - i) i) (m - i) m (m + (j - i)) = rot f (m - i) m (m + j) := by
  funext k
  unfold rot swpR
  rw [show m + (j - i) - m = j - i by omega, show m + j - m = j by omega, show m - (m - i) = i by omega]
  by_cases h1 : m - i ≤ k ∧ k < m - i + (j - i)
  · rw [if_pos h1, if_pos (show m - i ≤ k ∧ k < m - i + j by omega)]
    by_cases h2 : m + j - i ≤ k + i ∧ k + i < m + j - i + i
    · rw [if_neg (by omega), if_pos h2]; omega
    · rw [if_neg (by omega), if_neg h2]
  · rw [if_neg h1]
    by_cases h2 : m - i + (j - i) ≤ k ∧ k < m + (j - i)
    · rw [if_pos h2]
      by_cases h3 : m - i ≤ k - (j - i) ∧ k - (j - i) < m - i + i
      · rw [if_pos h3]
        rw [if_pos (by omega)]
        congr 1; omega
      · omega
    · rw [if_neg h2]
      by_cases h3 : m + j - i ≤ k ∧ k < m + j - i + i
      · rw [if_neg (by omega), if_pos h3, if_neg (by omega), if_pos (by omega)]
        congr 1; omega
      · rw [if_neg (by omega), if_neg h3, if_neg (by omega), if_neg (by omega)]
theorem rot_eq (f : Nat → Int) {m i : Nat} (hi : i ≤ m) : swpR f (m - i) m i = rot f (m - i) m (m + i) := by
  funext k
  unfold rot swpR
  rw [show m + i - m = i by omega, show m - (m - i) = i by omega]
  by_cases h1 : m - i ≤ k ∧ k < m - i + i
  · rw [if_pos h1, if_pos h1]; congr 1; omega
  · rw [if_neg h1, if_neg h1]
    by_cases h2 : m ≤ k ∧ k < m + i
    · rw [if_pos h2, if_pos (by omega)]; congr 1; omega
    · rw [if_neg h2, if_neg (by omega)]

/-- g is f, with what stands in [a, b) put in another order -/
def Rear (f g : Nat → Int) (a b : Nat) : Prop := ∃ σ τ : Nat → Nat, (∀ k, σ (τ k) = k) ∧ (∀ k, τ (σ k) = k) ∧ (∀ k, k < a ∨ b ≤ k → σ k = k) ∧ ∀ k, g k = f (σ k)
theorem Rear.refl (f : Nat → Int) (a b : Nat) : Rear f f a b := ⟨id, id, fun _ => rfl, fun _ => rfl, fun _ _ => rfl, fun _ => rfl⟩
theorem Rear.trans {f g h : Nat → Int} {a b : Nat} (p : Rear f g a b) (q : Rear g h a b) : Rear f h a b := by
  obtain ⟨σ, τ, h1, h2, h3, h4⟩ := p
  obtain ⟨σ', τ', k1, k2, k3, k4⟩ := q
  exact ⟨fun k => σ (σ' k), fun k => τ' (τ k), fun k => by show σ (σ' (τ' (τ k))) = k; rw [k1, h1], fun k => by show τ' (τ (σ (σ' k))) = k; rw [h2, k2], fun k hk => by show σ (σ' k) = k; rw [k3 k hk, h3 k hk], fun k => by show h k = f (σ (σ' k)); rw [k4, h4]⟩
theorem Rear.mono {f g : Nat → Int} {a b a' b' : Nat} (p : Rear f g a b) (ha : a' ≤ a) (hb : b ≤ b') : Rear f g a' b' := by
  obtain ⟨σ, τ, h1, h2, h3, h4⟩ := p
  exact ⟨σ, τ, h1, h2, fun k hk => h3 k (by omega), h4⟩
theorem Rear.out {f g : Nat → Int} {a b k : Nat} (p : Rear f g a b) (hk : k < a ∨ b ≤ k) : g k = f k := by
  obtain ⟨σ, τ, h1, h2, h3, h4⟩ := p
  rw [h4, h3 k hk]
theorem Rear.in_ {f g : Nat → Int} {a b k : Nat} (p : Rear f g a b) (h1 : a ≤ k) (h2 : k < b) : ∃ j, a ≤ j ∧ j < b ∧ g k = f j := by
  obtain ⟨σ, τ, q1, q2, q3, q4⟩ := p
  refine ⟨σ k, ?_, ?_, q4 k⟩
  · rcases Nat.lt_or_ge (σ k) a with h | h
    · have := q3 (σ k) (.inl h)
      have e : σ k = k := by have := congrArg τ this; rw [q2, q2] at this; exact this
      omega
    · exact h
  · rcases Nat.lt_or_ge (σ k) b with h | h
    · exact h
    · have := q3 (σ k) (.inr h)
      have e : σ k = k := by have := congrArg τ this; rw [q2, q2] at this; exact this
      omega
theorem Rear.swp (f : Nat → Int) {a b i j : Nat} (hi : a ≤ i ∧ i < b) (hj : a ≤ j ∧ j < b) : Rear f (swp f i j) a b := by
  refine ⟨fun k => if k = i then j else if k = j then i else k, fun k => if k = i then j else if k = j then i else k, ?_, ?_, ?_, ?_⟩
  · intro k
    by_cases h1 : k = i
    · subst h1
      simp only [if_true]
      by_cases h2 : j = k
      · simp [h2]
      · simp [h2]
    · simp only [h1, if_false]
      by_cases h2 : k = j
      · simp [h2]
      · simp [h1, h2]
  · intro k
    by_cases h1 : k = i
    · subst h1
      simp only [if_true]
      by_cases h2 : j = k
      · simp [h2]
      · simp [h2]
    · simp only [h1, if_false]
      by_cases h2 : k = j
      · simp [h2]
      · simp [h1, h2]
  · intro k hk
    dsimp only
    rw [if_neg (by omega), if_neg (by omega)]
  · intro k
    unfold Go.Proofs.Ytaacfjeddoekfaa.swp
    dsimp only
    split
    · rfl
    · split <;> rfl
theorem Rear.swpR (f : Nat → Int) {a b c d : Nat} (n : Nat) (h1 : c ≤ a) (h2 : a + n ≤ b) (h3 : b + n ≤ d) : Rear f (swpR f a b n) c d := by
  induction n with
  | zero => rw [swpR_zero]; exact .refl _ _ _
  | succ n ih =>
    rw [← swpR_succ f (by omega)]
    exact (ih (by omega) (by omega)).trans (Rear.swp _ (by omega) (by omega))
theorem Rear.rot (f : Nat → Int) {a m b : Nat} (h1 : a ≤ m) (h2 : m ≤ b) : Rear f (rot f a m b) a b := by
  refine ⟨fun k => if a ≤ k ∧ k < a + (b - m) then k + (m - a) else if a + (b - m) ≤ k ∧ k < b then k - (b - m) else k,
    fun k => if a ≤ k ∧ k < m then k + (b - m) else if m ≤ k ∧ k < b then k - (m - a) else k, ?_, ?_, ?_, ?_⟩
  · intro k
    by_cases c1 : a ≤ k ∧ k < m
    · simp only [if_pos c1]; rw [if_neg (by omega), if_pos (by omega)]; omega
    · simp only [if_neg c1]
      by_cases c2 : m ≤ k ∧ k < b
      · simp only [if_pos c2]; rw [if_pos (by omega)]; omega
      · simp only [if_neg c2]; rw [if_neg (by omega), if_neg (by omega)]
  · intro k
    by_cases c1 : a ≤ k ∧ k < a + (b - m)
    · simp only [if_pos c1]; rw [if_neg (by omega), if_pos (by omega)]; omega
    · simp only [if_neg c1]
      by_cases c2 : a + (b - m) ≤ k ∧ k < b
      · simp only [if_pos c2]; rw [if_pos (by omega)]; omega
      · simp only [if_neg c2]; rw [if_neg (by omega), if_neg (by omega)]
  · intro k hk
    dsimp only
    rw [if_neg (by omega), if_neg (by omega)]
  · intro k
    unfold Go.Proofs.Ytaacfjeddoekfaa.rot
    dsimp only
    split
    · rfl
    · split <;> rfl
end Go.Proofs.Ytaacfjeddoekfaa
/- Sorting in place: the row in memory; exchanges. -/
namespace Go.Proofs.Ytaacfjeddoekfaa
open Go.RowKit
set_option linter.unusedVariables false

def fRow (f : Nat → Int) (n : Nat) : List Value := (List.range n).map fun k => Value.int .i64 (f k)
theorem fRow_get (f : Nat → Int) {n k : Nat} (h : k < n) : (fRow f n)[k]? = some (.int .i64 (f k)) := by simp [fRow, h]
theorem fRow_set (f : Nat → Int) (n k : Nat) (x : Int) : (fRow f n).set k (.int .i64 x) = fRow (fun j => if j = k then x else f j) n := by
  unfold fRow
  apply List.ext_getElem
  · simp
  · intro j h1 h2
    simp only [List.length_set, List.length_map, List.length_range] at h1
    rw [List.getElem_set]
    by_cases h : k = j
    · subst h; simp
    · rw [if_neg h]; simp [Ne.symm h]
/-- the row of block g holds f, in n places -/
def IR (w : World) (base g cap n : Nat) (f : Nat → Int) : Prop := w.ownsRow base 3 1 (.slice (some ⟨g, 0, none⟩) n cap) n (fRow f n)
section
variable {w w' : World} {base g cap n : Nat} {f : Nat → Int}
theorem IR.cell (h : IR w base g cap n f) {k : Nat} (hk : k < n) : w.cell? ⟨g, k, none⟩ = some (.int .i64 (f k)) := by
  rw [World.ownsRow.cellAt h k (by omega), fRow_get f hk]
theorem IR.free (h : IR w base g cap n f) (k : Nat) : w.frozen? ⟨g, k, none⟩ = false := World.ownsRow.frozenAt h k
theorem IR.drew (h : IR w base g cap n f) : IR w.drew base g cap n f := World.ownsRow.drew h
theorem IR.dN (h : IR w base g cap n f) (k : Nat) : IR (w.drewN k) base g cap n f := own_dN h
theorem IR.le (h : IR w base g cap n f) : base ≤ g ∧ g < w.heap.size := World.ownsRow.lt h g rfl
theorem IR.caps (h : IR w base g cap n f) : n ≤ cap ∧ cap ≤ maxLen := by
  obtain ⟨A, c, e, h1, h2⟩ := own_form h
  cases e
  exact ⟨h1, h2⟩
theorem IR.set (h : IR w base g cap n f) {k : Nat} (hk : k < n) (x : Int) : IR (w.setCell ⟨g, k, none⟩ (.int .i64 x)) base g cap n (fun j => if j = k then x else f j) := by
  have := World.ownsRow.stored h k (.int .i64 x)
  rw [fRow_set] at this
  exact this.1
theorem IR.congr {f' : Nat → Int} (h : IR w base g cap n f) (e : ∀ k, k < n → f k = f' k) : IR w base g cap n f' := by
  have : fRow f n = fRow f' n := by
    unfold fRow
    refine List.map_congr_left fun k hk => ?_
    rw [e k (by simpa using hk)]
  unfold IR at *
  rwa [this] at h
theorem IR.swap (h : IR w base g cap n f) {i j : Nat} (hi : i < n) (hj : j < n) : IR ((w.setCell ⟨g, i, none⟩ (.int .i64 (f j))).setCell ⟨g, j, none⟩ (.int .i64 (f i))) base g cap n (swp f i j) := by
  refine ((h.set hi (f j)).set hj (f i)).congr fun k hk => ?_
  unfold swp
  by_cases h1 : k = i
  · subst h1
    by_cases h2 : k = j
    · subst h2; simp
    · simp [h2]
  · simp [h1]
theorem IR.kept {base' : Nat} (h : IR w base g cap n f) (hb : Below w.heap.size w w') : IR w' base g cap n f := own_below h hb (Nat.le_refl _)
theorem IR.block (h : IR w base g cap n f) (e : w'.heap[g]? = w.heap[g]?) : IR w' base g cap n f := by
  unfold IR World.ownsRow at *
  refine ⟨h.1, h.2.imp id ?_⟩
  rintro ⟨g', cap', cur, hv, hb, hg, rest⟩
  refine ⟨g', cap', cur, hv, hb, ?_, rest⟩
  cases hv
  rw [e]; exact hg
end
theorem idx_at {g n c i : Nat} {x : Int} (hx : x = (i : Int)) (hi : i < n) (w : World) : (Instr.indexAt 25 (.slice (some ⟨g, 0, none⟩) n c) (.int .i64 x)).run Try.prog w = .ok (.pointer (some ⟨g, i, none⟩)) w := by
  subst hx
  rw [run_indexAt_slice w 25 _ _ _ _ _ (by kernel_rfl), if_pos (by omega)]
  have hs : (sizeOf (Try.prog.elem 25)).run Try.prog w = .ok 1 w := by kernel_rfl
  rw [hs]
  simp [Result.andThen, Addr.add]
  omega
/-- the world behind a sort: the row alone has turned -/
def Srt (w w' : World) (base g cap n : Nat) (f' : Nat → Int) : Prop := w.grownBy w' (some g) ∧ w'.heap.size = w.heap.size ∧ IR w' base g cap n f'

theorem Srt.refl {w : World} {base g cap n : Nat} {f : Nat → Int} (h : IR w base g cap n f) : Srt w w base g cap n f := ⟨⟨rfl, rfl, rfl, Nat.le_refl _, fun _ _ _ => rfl⟩, rfl, h⟩
theorem Srt.trans {a b c : World} {base g cap n : Nat} {f f' : Nat → Int} (h : Srt a b base g cap n f) (k : Srt b c base g cap n f') : Srt a c base g cap n f' := ⟨grownBy_trans h.1 k.1, k.2.1.trans h.2.1, k.2.2⟩
theorem Srt.drew {a b : World} {base g cap n : Nat} {f : Nat → Int} (h : Srt a b base g cap n f) : Srt a b.drew base g cap n f := ⟨⟨h.1.os, h.1.tape, h.1.output, h.1.size, h.1.block⟩, h.2.1, h.2.2.drew⟩
theorem Srt.dN {a b : World} {base g cap n : Nat} {f : Nat → Int} (h : Srt a b base g cap n f) (k : Nat) : Srt a (b.drewN k) base g cap n f := ⟨⟨h.1.os, h.1.tape, h.1.output, h.1.size, h.1.block⟩, h.2.1, h.2.2.dN k⟩
theorem Srt.swap {a b : World} {base g cap n : Nat} {f : Nat → Int} (h : Srt a b base g cap n f) {i j : Nat} (hi : i < n) (hj : j < n) :
    Srt a (((b.setCell ⟨g, i, none⟩ (.int .i64 (f j))).setCell ⟨g, j, none⟩ (.int .i64 (f i))).drew) base g cap n (swp f i j) := by
  refine Srt.drew ⟨grownBy_trans h.1 (grownBy_trans (grownBy_set _ _ _ _) (grownBy_set _ _ _ _)), by simpa using h.2.1, h.2.2.swap hi hj⟩
theorem Srt.swapN {a b : World} {base g cap n : Nat} {f : Nat → Int} (h : Srt a b base g cap n f) {i j : Nat} (hi : i < n) (hj : j < n) (k : Nat) :
    Srt a (((b.drewN k).setCell ⟨g, i, none⟩ (.int .i64 (f j))).setCell ⟨g, j, none⟩ (.int .i64 (f i))) base g cap n (swp f i j) := by
  have h := h.dN k
  exact ⟨grownBy_trans h.1 (grownBy_trans (grownBy_set _ _ _ _) (grownBy_set _ _ _ _)), by simpa using h.2.1, h.2.2.swap hi hj⟩
theorem Srt.of_eq {a b : World} {base g cap n : Nat} {f f' : Nat → Int} (h : Srt a b base g cap n f) (e : f = f') : Srt a b base g cap n f' := e ▸ h

set_option maxHeartbeats 1000000 in
theorem swapRange_any {base g cap n : Nat} {f : Nat → Int} (a b m : Nat) (cv : Value) (w : World) (h : IR w base g cap n f) (hab : a + m ≤ b) (hbn : b + m ≤ n) :
    Calls Try.prog 82 #[.slice (some ⟨g, 0, none⟩) n cap, .int .i64 a, .int .i64 b, .int .i64 m, cv] w fun e w' => e = .returned (.tuple #[]) ∧ Srt w w' base g cap n (swpR f a b m) := by
  obtain ⟨hc1, hc2⟩ := h.caps
  unfold maxLen at hc2
  have H := Lib.hid h
  clear h
  go_enter Try.func82, Try.ntmps82
  go_wp2_with fail
  go_loopg [10] m (fun gg ctr wr => ∃ i : Nat, i ≤ m ∧ gg = m - i ∧ ctr = .int .i64 i ∧ Srt w wr base g cap n (swpR f a b i))
  case atStart => exact ⟨0, by omega, rfl, rfl, ⟨rfl, rfl, rfl, Nat.le_refl _, fun _ _ _ => rfl⟩, rfl, by rw [swpR_zero]; exact H.out⟩
  case round =>
    obtain ⟨i, hi, rfl, rfl, hs⟩ := hrel
    have HS := Lib.hid hs
    clear hs
    by_cases him : i < m
    case neg =>
      obtain rfl : i = m := by omega
      go_wp2_with fail
      go_end0
      exact ⟨rfl, HS.out⟩
    have x0 := HS.out.2.2.cell (k := a + i) (by omega)
    have x1 := HS.out.2.2.cell (k := b + i) (by omega)
    have z0 := HS.out.2.2.free (a + i)
    have z1 := HS.out.2.2.free (b + i)
    have e0 : swpR f a b i (a + i) = swpR f a b i (a + i) := rfl
    clear e0
    have HW := Lib.hid (HS.out.swap (i := a + i) (j := b + i) (by omega) (by omega))
    rw [swpR_succ f (by omega)] at HW
    generalize swpR f a b i (a + i) = u at *
    generalize swpR f a b i (b + i) = v at *
    go_wp2_with fail
    go_region
    go_wp2_with fail
    go_roundg (m - (i + 1))
    case measure => omega
    case rel => exact ⟨i + 1, by omega, rfl, by go_num, HW.out⟩
end Go.Proofs.Ytaacfjeddoekfaa
/- Sorting in place: rotation; insertion. -/
namespace Go.Proofs.Ytaacfjeddoekfaa
open Go.RowKit
set_option linter.unusedVariables false

set_option maxHeartbeats 1000000 in
theorem rotate_any {base g cap n : Nat} {f : Nat → Int} (a m b : Nat) (cv : Value) (w : World) (h : IR w base g cap n f) (ham : a < m) (hmb : m < b) (hbn : b ≤ n) :
    Calls Try.prog 80 #[.slice (some ⟨g, 0, none⟩) n cap, .int .i64 a, .int .i64 m, .int .i64 b, cv] w fun e w' => e = .returned (.tuple #[]) ∧ Srt w w' base g cap n (rot f a m b) := by
  obtain ⟨hc1, hc2⟩ := h.caps
  unfold maxLen at hc2
  have H := Lib.hid h
  clear h
  go_enter Try.func80, Try.ntmps80
  go_wp2_with fail
  go_loopg [10, 11] ((m - a) + (b - m)) (fun gg si sj wr => ∃ (i j : Nat) (h : Nat → Int), 0 < i ∧ 0 < j ∧ i ≤ m ∧ m + j ≤ n ∧ gg = i + j ∧ si = .int .i64 i ∧ sj = .int .i64 j ∧ Srt w wr base g cap n h ∧ rot h (m - i) m (m + j) = rot f a m b)
  case atStart =>
    refine ⟨m - a, b - m, f, by omega, by omega, by omega, by omega, rfl, ?_, ?_, Srt.refl H.out, ?_⟩
    · show Value.int .i64 _ = _; congr 1; omega
    · show Value.int .i64 _ = _; congr 1; omega
    · rw [show m - (m - a) = a by omega, show m + (b - m) = b by omega]
  case round =>
    obtain ⟨i, j, h, hi, hj, him, hjn, rfl, rfl, rfl, hs, hr⟩ := hrel
    have HS := Lib.hid hs
    have HR := Lib.hid hr
    clear hs hr
    rcases Nat.lt_trichotomy i j with hij | hij | hij
    · have hne : ((i : Int) != (j : Int)) = true := by simp; omega
      have HE : Hid (rot (swpR h (m - i) (m + j - i) i) (m - i) m (m + (j - i)) = rot f a m b) := (rot_lt h him hij).trans HR.out
      go_wp2_with fail
      rw [show ((m : Int) - (i : Int)) = ((m - i : Nat) : Int) by omega, show ((m : Int) + (j : Int) - (i : Int)) = ((m + j - i : Nat) : Int) by omega]
      refine (swapRange_any (m - i) (m + j - i) i cv wr HS.out.2.2 (by omega) (by omega)).mono ?_
      rintro e w1 ⟨rfl, hs1⟩
      have HS1 := Lib.hid (HS.out.trans hs1)
      clear hs1
      go_wp2_with fail
      go_roundg (i + (j - i))
      case measure => omega
      case rel => exact ⟨i, j - i, _, hi, by omega, him, by omega, rfl, rfl, by show Value.int .i64 _ = _; congr 1; omega, HS1.out, HE.out⟩
    · obtain rfl : i = j := hij
      have hne : ((i : Int) != (i : Int)) = false := by simp
      have HE : Hid (swpR h (m - i) m i = rot f a m b) := (rot_eq h him).trans HR.out
      go_wp2_with fail
      rw [show ((m : Int) - (i : Int)) = ((m - i : Nat) : Int) by omega]
      refine (swapRange_any (m - i) m i cv wr HS.out.2.2 (by omega) (by omega)).mono ?_
      rintro e w1 ⟨rfl, hs1⟩
      have HS1 := Lib.hid (HS.out.trans hs1)
      clear hs1
      go_wp2_with fail
      go_end0
      exact ⟨rfl, HS1.out.of_eq HE.out⟩
    · have hne : ((i : Int) != (j : Int)) = true := by simp; omega
      have HE : Hid (rot (swpR h (m - i) m j) (m - (i - j)) m (m + j) = rot f a m b) := (rot_gt h him hij).trans HR.out
      go_wp2_with fail
      rw [show ((m : Int) - (i : Int)) = ((m - i : Nat) : Int) by omega]
      refine (swapRange_any (m - i) m j cv wr HS.out.2.2 (by omega) (by omega)).mono ?_
      rintro e w1 ⟨rfl, hs1⟩
      have HS1 := Lib.hid (HS.out.trans hs1)
      clear hs1
      go_wp2_with fail
      go_roundg ((i - j) + j)
      case measure => omega
      case rel => exact ⟨i - j, j, _, by omega, hj, by omega, hjn, rfl, by show Value.int .i64 _ = _; congr 1; omega, rfl, HS1.out, HE.out⟩
end Go.Proofs.Ytaacfjeddoekfaa
/- Sorting in place, plain: order by a key, what came first first; insertion; merging. -/
namespace Go.Proofs.Ytaacfjeddoekfaa
set_option linter.unusedVariables false

def ltK (key : Int → Int) (x y : Int) : Prop := key x < key y ∨ key x = key y ∧ x < y
def Sd (key : Int → Int) (f : Nat → Int) (a b : Nat) : Prop := ∀ i j, a ≤ i → i < j → j < b → ltK key (f i) (f j)
/-- what stands in [a, m) came ahead of what stands in [m, b) -/
def Lo (f : Nat → Int) (a m b : Nat) : Prop := ∀ i j, a ≤ i → i < m → m ≤ j → j < b → f i < f j
def Asc (f : Nat → Int) (a b : Nat) : Prop := ∀ i j, a ≤ i → i < j → j < b → f i < f j
section
variable {key : Int → Int}
theorem ltK.trans {x y z : Int} (h : ltK key x y) (k : ltK key y z) : ltK key x z := by unfold ltK at *; omega
theorem ltK.le {x y : Int} (h : ltK key x y) : key x ≤ key y := by unfold ltK at *; omega
theorem Sd.le {f : Nat → Int} {a b i j : Nat} (h : Sd key f a b) (h1 : a ≤ i) (h2 : i ≤ j) (h3 : j < b) : key (f i) ≤ key (f j) := by
  rcases Nat.lt_or_eq_of_le h2 with h4 | rfl
  · exact (h i j h1 h4 h3).le
  · exact Int.le_refl _
theorem Sd.mono {f : Nat → Int} {a b a' b' : Nat} (h : Sd key f a b) (h1 : a ≤ a') (h2 : b' ≤ b) : Sd key f a' b' := fun i j p q r => h i j (by omega) q (by omega)
theorem Sd.small (f : Nat → Int) {a b : Nat} (h : b ≤ a + 1) : Sd key f a b := fun i j p q r => by omega
theorem Sd.congr {f g : Nat → Int} {a b : Nat} (h : Sd key f a b) (e : ∀ k, a ≤ k → k < b → g k = f k) : Sd key g a b := fun i j p q r => by rw [e i p (by omega), e j (by omega) r]; exact h i j p q r
theorem Lo.congr {f g : Nat → Int} {a m b : Nat} (h : Lo f a m b) (e : ∀ k, a ≤ k → k < b → g k = f k) (hm : m ≤ b) : Lo g a m b := fun i j p q r s => by rw [e i p (by omega), e j (by omega) s]; exact h i j p q r s

/-! ### insertion -/
structure Ins (key : Int → Int) (f g : Nat → Int) (a i j : Nat) (x : Int) : Prop where
  at_ : g j = x
  sd1 : ∀ p q, a ≤ p → p < q → q ≤ i → p ≠ j → q ≠ j → ltK key (g p) (g q)
  sd2 : ∀ q, j < q → q ≤ i → ltK key x (g q)
  lt : ∀ p, a ≤ p → p ≤ i → p ≠ j → g p < x
  rear : Rear f g a (i + 1)
theorem Ins.start {f h : Nat → Int} {a b i : Nat} (hf : Asc f a b) (hs : Sd key h a i) (hr : Rear f h a i) (hai : a ≤ i) (hib : i < b) : Ins key f h a i i (h i) := by
  refine ⟨rfl, fun p q h1 h2 h3 h4 h5 => hs p q h1 h2 (by omega), fun q h1 h2 => by omega, fun p h1 h2 h3 => ?_, hr.mono (Nat.le_refl _) (by omega)⟩
  obtain ⟨p', k1, k2, e⟩ := hr.in_ h1 (show p < i by omega)
  rw [e, hr.out (.inr (Nat.le_refl _))]
  exact hf p' i k1 k2 hib
theorem Ins.step {f g : Nat → Int} {a i j : Nat} {x : Int} (h : Ins key f g a i j x) (haj : a < j) (hji : j ≤ i) (hk : key x < key (g (j - 1))) : Ins key f (swp g j (j - 1)) a i (j - 1) x := by
  have v : ∀ p, p ≠ j → p ≠ j - 1 → swp g j (j - 1) p = g p := fun p h1 h2 => by unfold swp; rw [if_neg h1, if_neg h2]
  have vj : swp g j (j - 1) j = g (j - 1) := by unfold swp; rw [if_pos rfl]
  have vi : swp g j (j - 1) (j - 1) = x := by unfold swp; rw [if_neg (by omega), if_pos rfl]; exact h.at_
  refine ⟨vi, fun p q h1 h2 h3 h4 h5 => ?_, fun q h1 h2 => ?_, fun p h1 h2 h3 => ?_, h.rear.trans (Rear.swp _ (by omega) (by omega))⟩
  · by_cases hq : q = j
    · subst hq
      rw [vj, v p (by omega) h4]
      exact h.sd1 p (q - 1) h1 (by omega) (by omega) (by omega) (by omega)
    · by_cases hp : p = j
      · subst hp
        rw [vj, v q hq h5]
        exact h.sd1 (p - 1) q (by omega) (by omega) h3 (by omega) hq
      · rw [v p hp h4, v q hq h5]
        exact h.sd1 p q h1 h2 h3 hp hq
  · by_cases hq : q = j
    · subst hq; rw [vj]; exact .inl hk
    · rw [v q hq (by omega)]; exact h.sd2 q (by omega) h2
  · by_cases hp : p = j
    · subst hp; rw [vj]; exact h.lt (p - 1) (by omega) (by omega) (by omega)
    · rw [v p hp h3]; exact h.lt p h1 h2 hp
theorem Ins.stop {f g : Nat → Int} {a i j : Nat} {x : Int} (h : Ins key f g a i j x) (haj : a ≤ j) (hji : j ≤ i) (hk : a < j → ¬ key x < key (g (j - 1))) : Sd key g a (i + 1) := by
  intro p q h1 h2 h3
  by_cases hp : p = j
  · subst hp; rw [h.at_]; exact h.sd2 q h2 (by omega)
  · by_cases hq : q = j
    · subst hq
      rw [h.at_]
      have k := hk (by omega)
      have l := h.lt (q - 1) (by omega) (by omega) (by omega)
      have t : ltK key (g (q - 1)) x := by unfold ltK; omega
      by_cases hpq : p = q - 1
      · rw [hpq]; exact t
      · exact (h.sd1 p (q - 1) h1 (by omega) (by omega) (by omega) (by omega)).trans t
    · exact h.sd1 p q h1 h2 (by omega) hp hq

/-! ### merging -/
theorem rot_lo (f : Nat → Int) {s m e p : Nat} (h : p < s) : rot f s m e p = f p := by unfold rot; rw [if_neg (by omega), if_neg (by omega)]
theorem rot_r (f : Nat → Int) {s m e p : Nat} (h1 : s ≤ p) (h2 : p < s + (e - m)) : rot f s m e p = f (p + (m - s)) := by unfold rot; rw [if_pos ⟨h1, h2⟩]
theorem rot_l (f : Nat → Int) {s m e p : Nat} (h1 : s + (e - m) ≤ p) (h2 : p < e) : rot f s m e p = f (p - (e - m)) := by unfold rot; rw [if_neg (by omega), if_pos ⟨h1, h2⟩]
theorem rot_hi (f : Nat → Int) {s m e p : Nat} (h0 : s ≤ m) (h00 : m ≤ e) (h : e ≤ p) : rot f s m e p = f p := by unfold rot; rw [if_neg (by omega), if_neg (by omega)]

structure Pre (key : Int → Int) (f : Nat → Int) (a m b : Nat) : Prop where
  l : Sd key f a m
  r : Sd key f m b
  lo : Lo f a m b
structure Cut (key : Int → Int) (f : Nat → Int) (a s m e b : Nat) : Prop where
  hs : a ≤ s
  sm : s ≤ m
  me : m ≤ e
  eb : e ≤ b
  A : ∀ x y, a ≤ x → x < s → e ≤ y → y < b → ¬ key (f y) < key (f x)
  B : ∀ x y, s ≤ x → x < m → m ≤ y → y < e → key (f y) < key (f x)
section
variable {f : Nat → Int} {a s m e b : Nat} (h : Pre key f a m b) (c : Cut key f a s m e b)
include h c
theorem cut_cross {p q : Nat} (h1 : a ≤ p) (h2 : p < s + (e - m)) (h3 : s + (e - m) ≤ q) (h4 : q < b) : ltK key (rot f s m e p) (rot f s m e q) := by
  obtain ⟨hs, sm, me, eb, A, B⟩ := c
  by_cases hp : p < s
  · rw [rot_lo f hp]
    by_cases hq : q < e
    · rw [rot_l f h3 hq]
      exact h.l p (q - (e - m)) h1 (by omega) (by omega)
    · rw [rot_hi f sm me (by omega)]
      have k := A p q h1 hp (by omega) h4
      have l := h.lo p q h1 (by omega) (by omega) h4
      unfold ltK; omega
  · rw [rot_r f (by omega) h2]
    by_cases hq : q < e
    · rw [rot_l f h3 hq]
      exact .inl (B _ _ (by omega) (by omega) (by omega) (by omega))
    · rw [rot_hi f sm me (by omega)]
      exact h.r _ _ (by omega) (by omega) h4
theorem cut_left : Pre key (rot f s m e) a s (s + (e - m)) := by
  obtain ⟨hs, sm, me, eb, A, B⟩ := c
  refine ⟨fun i j p q r => ?_, fun i j p q r => ?_, fun i j p q r t => ?_⟩
  · rw [rot_lo f (by omega), rot_lo f r]; exact h.l i j p q (by omega)
  · rw [rot_r f p (by omega), rot_r f (by omega) r]; exact h.r _ _ (by omega) (by omega) (by omega)
  · rw [rot_lo f q, rot_r f r t]; exact h.lo _ _ p (by omega) (by omega) (by omega)
theorem cut_right : Pre key (rot f s m e) (s + (e - m)) e b := by
  obtain ⟨hs, sm, me, eb, A, B⟩ := c
  refine ⟨fun i j p q r => ?_, fun i j p q r => ?_, fun i j p q r t => ?_⟩
  · rw [rot_l f p (by omega), rot_l f (by omega) r]; exact h.l _ _ (by omega) (by omega) (by omega)
  · rw [rot_hi f sm me p, rot_hi f sm me (by omega)]; exact h.r i j (by omega) q r
  · rw [rot_l f p q, rot_hi f sm me r]; exact h.lo _ _ (by omega) (by omega) (by omega) t
/-- both halves put in order: the whole is -/
theorem cut_done {g1 g2 : Nat → Int} (r1 : Rear (rot f s m e) g1 a (s + (e - m))) (d1 : Sd key g1 a (s + (e - m))) (r2 : Rear g1 g2 (s + (e - m)) b) (d2 : Sd key g2 (s + (e - m)) b) :
    Sd key g2 a b ∧ Rear f g2 a b := by
  have c' := c
  obtain ⟨hs, sm, me, eb, A, B⟩ := c'
  refine ⟨fun p q h1 h2 h3 => ?_, ((Rear.rot f sm me).mono hs eb).trans ((r1.mono (Nat.le_refl _) (by omega)).trans (r2.mono (by omega) (Nat.le_refl _)))⟩
  by_cases hq : q < s + (e - m)
  · rw [r2.out (.inl (by omega)), r2.out (.inl hq)]
    exact d1 p q h1 h2 hq
  · by_cases hp : p < s + (e - m)
    · obtain ⟨q', k1, k2, e1⟩ := r2.in_ (show s + (e - m) ≤ q by omega) h3
      obtain ⟨p', k3, k4, e2⟩ := r1.in_ h1 hp
      rw [r2.out (.inl hp), e2, e1, r1.out (.inr k1)]
      exact cut_cross h c k3 k4 k1 k2
    · exact d2 p q (by omega) h2 h3
end
theorem Pre.left {f : Nat → Int} {a m b : Nat} (h : Pre key f a m b) (hn : ¬ (a < m ∧ m < b)) (h1 : a ≤ m) (h2 : m ≤ b) : Sd key f a b := by
  by_cases hm : a < m
  · obtain rfl : m = b := by omega
    exact h.l
  · obtain rfl : a = m := by omega
    exact h.r

/-- the first way: one element on the left -/
theorem one_left {f : Nat → Int} {a b i : Nat} (h : Pre key f a (a + 1) b) (h1 : a + 1 ≤ i) (h2 : i ≤ b) (k1 : ∀ y, a + 1 ≤ y → y < i → key (f y) < key (f a)) (k2 : ∀ y, i ≤ y → y < b → ¬ key (f y) < key (f a)) :
    Sd key (rot f a (a + 1) i) a b ∧ Rear f (rot f a (a + 1) i) a b := by
  have c : Cut key f a a (a + 1) i b := by
    refine ⟨Nat.le_refl _, by omega, h1, h2, fun x y _ _ _ _ => by omega, fun x y p q r t => ?_⟩
    have e : x = a := by omega
    rw [e]
    exact k1 y r t
  refine cut_done h c (.refl _ _ _) ((cut_left h c).left (by omega) (by omega) (by omega)) (.refl _ _ _) ?_
  intro p q p1 p2 p3
  by_cases hp : p < i
  · rw [rot_l f p1 hp, rot_hi f (by omega) h1 (by omega)]
    obtain e : p - (i - (a + 1)) = a := by omega
    rw [e]
    have := k2 q (by omega) p3
    have := h.lo a q (Nat.le_refl _) (by omega) (by omega) p3
    unfold ltK; omega
  · rw [rot_hi f (by omega) h1 (by omega), rot_hi f (by omega) h1 (by omega)]
    exact h.r p q (by omega) p2 p3
/-- the second way: one element on the right -/
theorem one_right {f : Nat → Int} {a m i : Nat} (h : Pre key f a m (m + 1)) (h1 : a ≤ i) (h2 : i ≤ m) (k1 : ∀ x, a ≤ x → x < i → ¬ key (f m) < key (f x)) (k2 : ∀ x, i ≤ x → x < m → key (f m) < key (f x)) :
    Sd key (rot f i m (m + 1)) a (m + 1) ∧ Rear f (rot f i m (m + 1)) a (m + 1) := by
  have c : Cut key f a i m (m + 1) (m + 1) := by
    refine ⟨h1, h2, by omega, Nat.le_refl _, fun x y _ _ _ _ => by omega, fun x y p q r t => ?_⟩
    have e : y = m := by omega
    rw [e]
    exact k2 x p q
  refine cut_done h c (.refl _ _ _) ?_ (.refl _ _ _) ((cut_right h c).left (by omega) (by omega) (by omega))
  intro p q p1 p2 p3
  by_cases hq : q < i
  · rw [rot_lo f (by omega), rot_lo f hq]; exact h.l p q p1 p2 (by omega)
  · rw [rot_lo f (by omega), rot_r f (by omega) p3]
    obtain e : q + (m - i) = m := by omega
    rw [e]
    have := k1 p p1 (by omega)
    have := h.lo p m p1 (by omega) (Nat.le_refl _) (by omega)
    unfold ltK; omega
theorem rot_none (f : Nat → Int) {s m e : Nat} (h1 : s ≤ m) (h2 : m ≤ e) (h : s = m ∨ m = e) : rot f s m e = f := by
  funext p
  unfold rot
  split
  · rcases h with rfl | rfl
    · congr 1; omega
    · omega
  · split
    · rcases h with rfl | rfl
      · omega
      · congr 1; omega
    · rfl
theorem rot_up (f : Nat → Int) {a k : Nat} (h : a ≤ k) : swp (rot f a (a + 1) (k + 1)) k (k + 1) = rot f a (a + 1) (k + 2) := by
  funext p
  unfold swp
  by_cases h1 : p = k
  · subst h1; rw [if_pos rfl, rot_hi f (by omega) (by omega) (by omega), rot_r f h (by omega)]; congr 1; omega
  · rw [if_neg h1]
    by_cases h2 : p = k + 1
    · subst h2; rw [if_pos rfl, rot_l f (by omega) (by omega), rot_l f (by omega) (by omega)]; congr 1; omega
    · rw [if_neg h2]
      by_cases h3 : p < a
      · rw [rot_lo f h3, rot_lo f h3]
      · by_cases h4 : p < k
        · rw [rot_r f (by omega) (by omega), rot_r f (by omega) (by omega)]
        · rw [rot_hi f (by omega) (by omega) (by omega), rot_hi f (by omega) (by omega) (by omega)]
theorem rot_down (f : Nat → Int) {m k : Nat} (h0 : 0 < k) (h : k ≤ m) : swp (rot f k m (m + 1)) k (k - 1) = rot f (k - 1) m (m + 1) := by
  funext p
  unfold swp
  by_cases h1 : p = k
  · subst h1; rw [if_pos rfl, rot_lo f (by omega), rot_l f (by omega) (by omega)]; congr 1; omega
  · rw [if_neg h1]
    by_cases h2 : p = k - 1
    · subst h2; rw [if_pos rfl, rot_r f (by omega) (by omega), rot_r f (by omega) (by omega)]; congr 1; omega
    · rw [if_neg h2]
      by_cases h3 : p < k - 1
      · rw [rot_lo f (by omega), rot_lo f h3]
      · by_cases h4 : p < m + 1
        · rw [rot_l f (by omega) (by omega), rot_l f (by omega) (by omega)]
        · rw [rot_hi f (by omega) (by omega) (by omega), rot_hi f (by omega) (by omega) (by omega)]

/-- the search of the third way, ended -/
theorem search_cut {f : Nat → Int} {a m b mid start s0 r0 : Nat} (h : Pre key f a m b) (hm : mid = (a + b) / 2) (ham : a < m) (hmb : m < b) (h0 : (m > mid ∧ s0 = mid + m - b ∧ r0 = mid) ∨ (m ≤ mid ∧ s0 = a ∧ r0 = m))
    (h1 : s0 ≤ start) (h2 : start ≤ r0) (k1 : ∀ c, s0 ≤ c → c < start → ¬ key (f (mid + m - 1 - c)) < key (f c)) (k2 : ∀ c, start ≤ c → c < r0 → key (f (mid + m - 1 - c)) < key (f c)) :
    Cut key f a start m (mid + m - start) b := by
  refine ⟨by omega, by omega, by omega, by omega, fun x y p q r t => ?_, fun x y p q r t => ?_⟩
  · have k := k1 (start - 1) (by omega) (by omega)
    have e : mid + m - 1 - (start - 1) = mid + m - start := by omega
    rw [e] at k
    have l1 := h.l.le p (show x ≤ start - 1 by omega) (by omega)
    have l2 := h.r.le (show m ≤ mid + m - start by omega) r t
    omega
  · have k := k2 start (Nat.le_refl _) (by omega)
    have l1 := h.l.le (show a ≤ start by omega) p q
    have l2 := h.r.le r (show y ≤ mid + m - 1 - start by omega) (by omega)
    omega
end
end Go.Proofs.Ytaacfjeddoekfaa
