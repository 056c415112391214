/- Chapter 11: the reference tells its state. (Printed by gen_told.py.) -/
import Derived.Test.YtaacfjeddoekfaaKnitDo
import Derived.Test.YtaacfjeddoekfaaKnitBuild
namespace Go.Proofs.Ytaacfjeddoekfaa
open Go.RowKit
set_option linter.unusedVariables false
set_option linter.unusedSimpArgs false

theorem SB.start0 {w0 w : World} {g : Nat} (rs : List Nat) {u0 vo : Value} {rack : Int} (hb : Below w0.heap.size w0 w) (ha : Arr w g 27 [u0, nils, nils, vo, .int .i64 rack]) (hg : w0.heap.size ≤ g) (h0 : 0 ∉ rs) :
    SB w0 w g (fun b => if b = g then rK else rC) rs (fun i => if i = 0 then u0 else nils) (fun _ => 0) (fun _ => []) vo rack [] := by
  refine ⟨hb, ha, hg, if_pos rfl, fun r hr => ?_, fun q hq => by cases hq⟩
  have e : (if r = 0 then u0 else nils) = nils := if_neg fun h => h0 (by rw [← h]; exact hr)
  rw [e]
  exact ⟨World.ownsRow_nil _ _ _ _, Sep.nil _ _⟩
/-- of i needles of the front bed, of i2 of the back bed it is told what they hold -/
def T2 (wA w : World) (g : Nat) (k : KS) (vl vo : Value) (i i2 : Nat) : Prop := ∃ own v n cs cl tf tb, SB wA w g own [1, 2] v n cs vo k.rack cl ∧ v 0 = vl ∧
  (n 1 = i ∧ cs 1 = vrow i tf ∧ (∀ j : Nat, j < i → (tf j, k.on 0 (j : Int)) ∈ cl)) ∧ n 2 = i2 ∧ cs 2 = vrow i2 tb ∧ (∀ j : Nat, j < i2 → (tb j, k.on 1 (j : Int)) ∈ cl)
theorem T2.below {wA w : World} {g : Nat} {k : KS} {vl vo : Value} {i i2 : Nat} (h : T2 wA w g k vl vo i i2) : Below wA.heap.size wA w := by obtain ⟨own, v, n, cs, cl, tf, tb, hs, _⟩ := h; exact hs.below
section
variable {wA wx w7 : World} {g z : Nat} {k : KS} {i i2 : Nat} {own : Nat → Role} {v : Nat → Value} {n : Nat → Nat} {cs : Nat → List Value} {vl vo u v' : Value} {cl : List (Value × List Int)} {tf tb : Nat → Value}
theorem T2.front (hs : SB wA wx g own [1, 2] v n cs vo k.rack cl) (h0 : v 0 = vl)
    (h1 : n 1 = i ∧ cs 1 = vrow i tf ∧ (∀ j : Nat, j < i → (tf j, k.on 0 (j : Int)) ∈ cl)) (h2 : n 2 = i2 ∧ cs 2 = vrow i2 tb ∧ (∀ j : Nat, j < i2 → (tb j, k.on 1 (j : Int)) ∈ cl)) (hu : (u, k.on 0 (i : Int)) ∈ cl)
    (hg : wx.grownBy w7 (v 1).ownBlock) (hz : wx.heap.size ≤ z) (hb : Below wA.heap.size wA w7) (hv : w7.ownsRow wA.heap.size 25 1 v' (i + 1) (cs 1 ++ [u])) (he : v'.ownBlock = (v 1).ownBlock ∨ v'.ownBlock = some z) :
    T2 wA (w7.setCell ⟨g, 1, none⟩ v') g k vl vo (i + 1) i2 := by
  have hg2 := hs.grow (r := 1) (by simp) (by decide) hg hz hb hv he
  refine ⟨_, _, _, _, _, fun j => if j = i then u else tf j, tb, hg2, h0, ⟨if_pos rfl, ?_, vrow_mem (f := fun j : Nat => k.on 0 (j : Int)) h1.2.2 hu⟩, h2⟩
  show (if 1 = 1 then _ else _) = _
  rw [if_pos rfl, h1.2.1, vrow_snoc]
theorem T2.back (hs : SB wA wx g own [1, 2] v n cs vo k.rack cl) (h0 : v 0 = vl)
    (h1 : n 1 = i ∧ cs 1 = vrow i tf ∧ (∀ j : Nat, j < i → (tf j, k.on 0 (j : Int)) ∈ cl)) (h2 : n 2 = i2 ∧ cs 2 = vrow i2 tb ∧ (∀ j : Nat, j < i2 → (tb j, k.on 1 (j : Int)) ∈ cl)) (hu : (u, k.on 1 (i2 : Int)) ∈ cl)
    (hg : wx.grownBy w7 (v 2).ownBlock) (hz : wx.heap.size ≤ z) (hb : Below wA.heap.size wA w7) (hv : w7.ownsRow wA.heap.size 25 1 v' (i2 + 1) (cs 2 ++ [u])) (he : v'.ownBlock = (v 2).ownBlock ∨ v'.ownBlock = some z) :
    T2 wA (w7.setCell ⟨g, 2, none⟩ v') g k vl vo i (i2 + 1) := by
  have hg2 := hs.grow (r := 2) (by simp) (by decide) hg hz hb hv he
  refine ⟨_, _, _, _, _, tf, fun j => if j = i2 then u else tb j, hg2, h0, h1, if_pos rfl, ?_, vrow_mem (f := fun j : Nat => k.on 1 (j : Int)) h2.2.2 hu⟩
  show (if 2 = 2 then _ else _) = _
  rw [if_pos rfl, h2.2.1, vrow_snoc]
end
theorem T2.end_ {wA w : World} {g : Nat} {k : KS} {vl vo : Value} {N : Nat} (h : T2 wA w g k vl vo N N) {T : Nat → Prop} (hl : LoopsRd w T vl k.loops) (ho : Ints w T vo k.loose) (hT : ∀ b, wA.heap.size ≤ b → b < w.heap.size → T b) :
    ∃ v1 v2, Arr w g 27 [vl, v1, v2, vo, .int .i64 k.rack] ∧ KnR w T (.agg #[vl, v1, v2, vo, .int .i64 k.rack]) (told N k) := by
  obtain ⟨own, v, n, cs, cl, tf, tb, hs, h0, ⟨h1, h2, h3⟩, h4, h5, h6⟩ := h
  refine ⟨v 1, v 2, by rw [← h0]; exact hs.arr, vl, v 1, v 2, vo, rfl, hl, ?_, ?_, ho⟩
  · refine (hs.lists (r := 1) (by simp) (by decide) (tv := tf) ?_ ?_ fun i hi => ?_).mono fun b hb => hT b hb.1 hb.2
    · unfold told; simpa using h1
    · unfold told; simpa using h2
    · unfold told at hi ⊢; simp only [List.length_map, List.length_range] at hi; dsimp only; rw [getD_on k 0 hi]; exact h3 i hi
  · refine (hs.lists (r := 2) (by simp) (by decide) (tv := tb) ?_ ?_ fun i hi => ?_).mono fun b hb => hT b hb.1 hb.2
    · unfold told; simpa using h4
    · unfold told; simpa using h5
    · unfold told at hi ⊢; simp only [List.length_map, List.length_range] at hi; dsimp only; rw [getD_on k 1 hi]; exact h6 i hi

set_option maxRecDepth 100000 in
set_option maxHeartbeats 4000000 in
theorem Told_any {w : World} {N : Nat} {k : KS} {hs : List Hd} {vl vh vo : Value} {S : Nat → Prop} (h : RSs S w N k hs vl vh vo) (hS : ∀ b, S b → b < w.heap.size) (hN : N ≤ 128) (hi : Kinv N k) :
    Calls Try.prog 32 #[sval N vl vh vo k.rack (k.done : Int)] w fun e w' => ∃ kv, e = .returned kv ∧ KnR w' (Gr S w w') kv (told N k) ∧ Below w.heap.size w w' := by
  have HM := Lib.hid h
  have HI := Lib.hid hi
  have HSS := Lib.hid hS
  have hd := hi.d
  have hlen := h.len
  have h8 := Lib.hid hi.on
  obtain ⟨A0, n0, rfl, hA0, hA0'⟩ := h.loops.sl
  obtain ⟨A1, n1, rfl, hA1, hA1'⟩ := h.held.sl
  obtain ⟨A2, n2, rfl, hA2, hA2'⟩ := h.loose.sl
  unfold maxLen at hA0' hA1' hA2'
  unfold sval
  have HS0 : Hid (Arr ((w.alloc (.cells #[.int .i64 N, .slice A0 k.loops.length n0, .slice A1 hs.length n1, .slice A2 k.loose.length n2, .int .i64 k.rack, .int .i64 (k.done : Int)] 58)).alloc (.cells #[nils, nils, nils, nils, .int .i64 0] 27)) w.heap.size 58 [.int .i64 N, .slice A0 k.loops.length n0, .slice A1 hs.length n1, .slice A2 k.loose.length n2, .int .i64 k.rack, .int .i64 (k.done : Int)]) := (Arr.new w _ 58).alloc _
  have HR0 := Lib.hid (arr_new2 w (.cells #[.int .i64 N, .slice A0 k.loops.length n0, .slice A1 hs.length n1, .slice A2 k.loose.length n2, .int .i64 k.rack, .int .i64 (k.done : Int)] 58) #[nils, nils, nils, nils, .int .i64 0] 27)
  have HB0 : Hid (Below w.heap.size w ((w.alloc (.cells #[.int .i64 N, .slice A0 k.loops.length n0, .slice A1 hs.length n1, .slice A2 k.loose.length n2, .int .i64 k.rack, .int .i64 (k.done : Int)] 58)).alloc (.cells #[nils, nils, nils, nils, .int .i64 0] 27))) := ((Below.refl _ _).alloc (Nat.le_refl _) _).alloc (by simp) _
  have hsA : ((w.alloc (.cells #[.int .i64 N, .slice A0 k.loops.length n0, .slice A1 hs.length n1, .slice A2 k.loose.length n2, .int .i64 k.rack, .int .i64 (k.done : Int)] 58)).alloc (.cells #[nils, nils, nils, nils, .int .i64 0] 27)).heap.size = w.heap.size + 2 := by simp
  clear h hi hS
  go_enter Try.func32, Try.ntmps32
  go_upto_region 1 with fail
  generalize (w.alloc (.cells #[.int .i64 N, .slice A0 k.loops.length n0, .slice A1 hs.length n1, .slice A2 k.loose.length n2, .int .i64 k.rack, .int .i64 (k.done : Int)] 58)).alloc (.cells #[nils, nils, nils, nils, .int .i64 0] 27) = wA at *
  have HSA := Lib.hid hsA
  clear hsA
  have s1 := HS0.out.cell (k := 1) rfl
  have s3 := HS0.out.cell (k := 3) rfl
  have s4 := HS0.out.cell (k := 4) rfl
  go_upto_region 2 with fail
  have HT0 : Hid (T2 wA (wA.alloc (.cells #[.slice A0 k.loops.length n0, nils, nils, .slice A2 k.loose.length n2, .int .i64 k.rack] 27)) wA.heap.size k (.slice A0 k.loops.length n0) (.slice A2 k.loose.length n2) 0 0) :=
    ⟨_, _, _, _, _, fun _ => nils, fun _ => nils, SB.start0 (w0 := wA) [1, 2] ((Below.refl _ _).alloc (Nat.le_refl _) _) (Arr.new wA #[.slice A0 k.loops.length n0, nils, nils, .slice A2 k.loose.length n2, .int .i64 k.rack] 27) (Nat.le_refl _) (by simp), rfl, ⟨rfl, rfl, fun j hj => by omega⟩, rfl, rfl, fun j hj => by omega⟩
  generalize wA.alloc (.cells #[.slice A0 k.loops.length n0, nils, nils, .slice A2 k.loose.length n2, .int .i64 k.rack] 27) = w1 at *
  clear s1 s3 s4
  have HWA : Hid (∀ w', Below wA.heap.size wA w' → Below w.heap.size w w') := fun w' hb => HB0.out.trans (hb.mono (by rw [HSA.out]; omega))
  go_wp2_with fail
  go_loopg [4] N (fun gg ctr wr => ∃ i : Nat, i ≤ N ∧ gg = N - i ∧ ctr = .int .i64 i ∧ T2 wA wr wA.heap.size k (.slice A0 k.loops.length n0) (.slice A2 k.loose.length n2) i i)
  case atStart => exact ⟨0, Nat.zero_le _, rfl, rfl, HT0.out⟩
  case round =>
    clear HT0
    obtain ⟨i, hi, rfl, rfl, ht2⟩ := hrel
    have HBZ := Lib.hid ht2.below
    have HBW : Hid (Below w.heap.size w wr) := HWA.out _ HBZ.out
    have hbx := HS0.out.of_eq (HBZ.out.block _ (by rw [HSA.out]; omega))
    have HBX := Lib.hid hbx
    have s0 := hbx.cell (k := 0) rfl
    by_cases hlt : i < N
    case neg =>
      obtain rfl : i = N := by omega
      have hlo := (HM.out.loops.same fun b hb => HBW.out.block b (HSS.out b hb)).mono (T := fun b => b < wr.heap.size ∧ b ≠ w.heap.size + 1 ∧ (S b ∨ w.heap.size ≤ b)) fun b hb => ⟨Nat.lt_of_lt_of_le (HSS.out b hb) HBW.out.size, by have := HSS.out b hb; omega, .inl hb⟩
      have hoo := (HM.out.loose.same fun b hb => HBW.out.block b (HSS.out b hb)).mono (T := fun b => b < wr.heap.size ∧ b ≠ w.heap.size + 1 ∧ (S b ∨ w.heap.size ≤ b)) fun b hb => ⟨Nat.lt_of_lt_of_le (HSS.out b hb) HBW.out.size, by have := HSS.out b hb; omega, .inl hb⟩
      obtain ⟨v1, v2, ha, hk⟩ := ht2.end_ hlo hoo (fun b h1 h2 => ⟨h2, by rw [HSA.out] at h1; omega, .inr (by rw [HSA.out] at h1; omega)⟩)
      have HK := Lib.hid hk
      obtain ⟨vl, vf, vb, vo', e, hl, hf, hb, ho⟩ := hk
      simp only [Value.agg.injEq, Array.mk.injEq, List.cons.injEq, and_true] at e
      obtain ⟨rfl, rfl, rfl, rfl, _⟩ := e
      obtain ⟨Af, cf, tf, rfl, _⟩ := hf
      obtain ⟨Ab, cb, tb, rfl, _⟩ := hb
      have a0 := ha.cell (k := 0) rfl
      have a1 := ha.cell (k := 1) rfl
      have a2 := ha.cell (k := 2) rfl
      have a3 := ha.cell (k := 3) rfl
      have a4 := ha.cell (k := 4) rfl
      have hr := HR0.out.of_eq (HBZ.out.block _ (by rw [HSA.out]; omega))
      have r0 := hr.cell (k := 0) rfl
      have r1 := hr.cell (k := 1) rfl
      have r2 := hr.cell (k := 2) rfl
      have r3 := hr.cell (k := 3) rfl
      have r4 := hr.cell (k := 4) rfl
      have f0 := hr.free 0
      have f1 := hr.free 1
      have f2 := hr.free 2
      have f3 := hr.free 3
      have f4 := hr.free 4
      have hq := ((((hr.set 0 (.slice A0 k.loops.length n0)).set 1 (.slice Af (told i k).front.length cf)).set 2 (.slice Ab (told i k).back.length cb)).set 3 (.slice A2 k.loose.length n2)).set 4 (.int .i64 k.rack)
      have q0 := hq.cell (k := 0) rfl
      have q1 := hq.cell (k := 1) rfl
      have q2 := hq.cell (k := 2) rfl
      have q3 := hq.cell (k := 3) rfl
      have q4 := hq.cell (k := 4) rfl
      have hl1 : w.heap.size ≤ w.heap.size + 1 := by omega
      have HBF := Lib.hid (((((HBW.out.setCell (p := ⟨w.heap.size + 1, 0, none⟩) hl1 (.slice A0 k.loops.length n0)).setCell (p := ⟨w.heap.size + 1, 1, none⟩) hl1 (.slice Af (told i k).front.length cf)).setCell (p := ⟨w.heap.size + 1, 2, none⟩) hl1 (.slice Ab (told i k).back.length cb)).setCell (p := ⟨w.heap.size + 1, 3, none⟩) hl1 (.slice A2 k.loose.length n2)).setCell (p := ⟨w.heap.size + 1, 4, none⟩) hl1 (.int .i64 k.rack))
      clear ha ht2 hr hq hbx hl ho hl1 hlo hoo
      go_wp2_with fail
      refine bodyPost_ret (v := .agg #[.slice A0 k.loops.length n0, .slice Af (told i k).front.length cf, .slice Ab (told i k).back.length cb, .slice A2 k.loose.length n2, .int .i64 k.rack]) (by simp [results, Try.results32, go_sem, q0, q1, q2, q3, q4]) rfl ⟨_, rfl, ?_, HBF.out⟩
      refine (HK.out.same fun b hb => ?_).mono fun b hb => hb.2.2.imp id fun h => ⟨h, by rw [hs_set, hs_set, hs_set, hs_set, hs_set]; exact hb.1⟩
      have hne : b ≠ w.heap.size + 1 := hb.2.1
      exact ((((Below.heap_setCell _ _ _ _ hne).trans (Below.heap_setCell _ _ _ _ hne)).trans (Below.heap_setCell _ _ _ _ hne)).trans (Below.heap_setCell _ _ _ _ hne)).trans (Below.heap_setCell _ _ _ _ hne)
    clear hbx
    obtain ⟨own, v, n, cs, cl, tf, tb, hsb, k0, k1, k2⟩ := ht2
    obtain ⟨Ac, ca0, hv0, hc1, hc2⟩ := own_form (hsb.row 1 (by simp)).1
    have en : n 1 = i := k1.1
    unfold maxLen at hc2
    have HSBX := Lib.hid hsb
    have HM2 := Lib.hid (And.intro k0 (And.intro k1 k2))
    have HV0 := Lib.hid hv0
    have HEN := Lib.hid en
    rw [en] at hc1
    clear hv0 k0 k1 k2 hsb en
    go_upto_region 5 with fail
    clear s0
    refine wp_region_plan [(true, 0), (true, 1), (true, 2), (true, 3), (false, 4), (false, 5), (false, 6), (true, 7), (false, 8)] 8
      (fun w' => w'.cell? ⟨wA.heap.size, 1, none⟩ = some (.slice Ac i ca0) ∧ Arr w' w.heap.size 58 [.int .i64 N, .slice A0 k.loops.length n0, .slice A1 hs.length n1, .slice A2 k.loose.length n2, .int .i64 k.rack, .int .i64 (k.done : Int)])
      (by kernel_rfl) (by kernel_rfl) (by kernel_rfl) rfl ⟨by have := HSBX.out.drew.cell (j := 1) rfl; rw [HV0.out, HEN.out] at this; exact this, HBX.out.dN 1⟩ ?_
    repeat (first
      | (refine plan_val _ ?_ (by rfl) (by rfl) ?_ ?_
         rotate_left 1
         · rintro w9 ⟨y0, hbx⟩
           have s0 := hbx.cell (k := 0) rfl
           have s1 := hbx.cell (k := 1) rfl
           have s2 := hbx.cell (k := 2) rfl
           have s3 := hbx.cell (k := 3) rfl
           have s4 := hbx.cell (k := 4) rfl
           have s5 := hbx.cell (k := 5) rfl
           go_simp; first | done | with_reducible rfl
         (try simp only [Act.put, List.setIfInBounds_toArray, List.set_cons_zero, List.set_cons_succ])))
    refine plan_call _ ?_ ?_ (by rfl) (by rfl) ?_ ?_
    rotate_left 2
    · go_simp; (refine And.intro ?_ ?_ <;> rfl)
    refine (On_any (N := N) (r := k.rack) (d := (k.done : Int)) (b := 0) (n := (i : Int)) _ ⟨_, _, _, rfl⟩ ((HM.out.held.same fun b hb => (below_dN (n := 1) HBW.out).block b (HSS.out b hb)).mono fun b hb => Nat.lt_of_lt_of_le (HSS.out b hb) HBW.out.size) ⟨_, _, _, rfl⟩ (by omega)).mono ?_
    rintro e w3 ⟨u, rfl, hu, hb3, _⟩
    rw [HM.out.on] at hu
    have HS3 := Lib.hid (HSBX.out.drew.more hb3 hu)
    obtain ⟨Au, cu, rfl, _, _, _⟩ := hu
    have y3 : w3.cell? ⟨wA.heap.size, 1, none⟩ = some (.slice Ac i ca0) := by have := HS3.out.cell (j := 1) rfl; rw [HV0.out, HEN.out] at this; exact this
    have HB3 := Lib.hid ((HBX.out.dN 1).of_eq (hb3.block _ HBX.out.lt))
    have hg3 := HS3.out.arr.lt
    have hx3 := HB3.out.lt
    clear hb3
    refine ⟨_, rfl, .inr ⟨y3, HB3.out⟩, ?_⟩
    (try simp only [Act.put, List.setIfInBounds_toArray, List.set_cons_zero, List.set_cons_succ])
    refine plan_do _ ?_ ?_ (by rfl) (by rfl) ?_ (.inr ?_) ?_
    rotate_left 2
    · go_simp; first | rfl | (refine And.intro ?_ ?_ <;> rfl)
    · exact ⟨by rw [World.cell?_alloc_lt _ _ _ (by exact hg3)]; exact y3, HB3.out.alloc _⟩
    (try simp only [Act.put, List.setIfInBounds_toArray, List.set_cons_zero, List.set_cons_succ])
    generalize hth : k.on 0 (i : Int) = thr at *
    have HTR := Lib.hid hth
    clear hth
    have hon : (w3.alloc (.cells #[.slice Au thr.length cu] 25)).ownsRow wA.heap.size 25 1 (.slice Ac i ca0) i (cs 1) := by
      have := own_al (HS3.out.row 1 (by simp)).1 (.cells #[.slice Au thr.length cu] 25)
      rw [HV0.out, HEN.out] at this
      exact this
    have hby : (i + 1) * 24 ≤ 140737488355328 := by omega
    refine plan_app _ T24 (w0 := wA) [.slice Au thr.length cu] hon (HS3.out.below.alloc HS3.out.below.size _) (Nat.le_refl _) (by rfl) (by rfl) rfl rfl rfl rfl
      (fun j u hu => by have := (Arr.new w3 #[.slice Au thr.length cu] 25).cell (k := j) hu; rwa [Nat.zero_add]) (by simp [Value.oneCell']) hby ?_
    intro v1 w7 hown1 hb1 hg1 ho1
    obtain ⟨Ag, c1', rfl, r1, r2⟩ := own_form hown1
    have hgw : w3.grownBy w7 (v 1).ownBlock := by rw [HV0.out, HEN.out]; exact grownBy_alloc_first hg1
    have HF := Lib.hid (T2.front (z := w3.heap.size + 1) HS3.out HM2.out.1 ⟨HM2.out.2.1.1, HM2.out.2.1.2.1, fun j hj => List.mem_cons_of_mem _ (HM2.out.2.1.2.2 j hj)⟩ ⟨HM2.out.2.2.1, HM2.out.2.2.2.1, fun j hj => List.mem_cons_of_mem _ (HM2.out.2.2.2.2 j hj)⟩
      (by rw [HTR.out]; exact List.mem_cons_self) hgw (Nat.le_succ _) hb1 hown1 (by rw [HV0.out, HEN.out]; rw [World.size_alloc] at ho1; exact ho1))
    have hgg : w7.heap[wA.heap.size]? = w3.heap[wA.heap.size]? := hgw.block _ hg3 fun e => absurd (HS3.out.og.symm.trans ((HS3.out.row 1 (by simp)).2 _ e.symm)) (by simp)
    have hold : ∀ x, x < wA.heap.size → w7.heap[x]? = w3.heap[x]? := fun x hx => hgw.block _ (by have := HS3.out.below.size; omega) fun e => by have := ((HS3.out.row 1 (by simp)).1.lt x e.symm).1; omega
    have t0 : w7.cell? ⟨wA.heap.size, 1, none⟩ = some (.slice Ac i ca0) := (World.cell?_of_block (a := ⟨wA.heap.size, 1, none⟩) hgg).trans y3
    have t1 : w7.frozen? ⟨wA.heap.size, 1, none⟩ = false := (World.frozen?_of_block (a := ⟨wA.heap.size, 1, none⟩) hgg).trans (HS3.out.arr.free 1)
    refine ⟨.inr ⟨t0, HB3.out.of_eq (hold _ (by rw [HSA.out]; omega))⟩, ?_⟩
    clear hown1 hb1 hg1 ho1 hgw hgg hold hon y3 HB3
    (try simp only [Act.put, List.setIfInBounds_toArray, List.set_cons_zero, List.set_cons_succ])
    repeat (first
      | (refine plan_val _ ?_ (by rfl) (by rfl) ?_ ?_
         rotate_left 1
         · rintro w9 ⟨y0, hbx⟩
           have s0 := hbx.cell (k := 0) rfl
           have s1 := hbx.cell (k := 1) rfl
           have s2 := hbx.cell (k := 2) rfl
           have s3 := hbx.cell (k := 3) rfl
           have s4 := hbx.cell (k := 4) rfl
           have s5 := hbx.cell (k := 5) rfl
           go_simp; first | done | with_reducible rfl
         (try simp only [Act.put, List.setIfInBounds_toArray, List.set_cons_zero, List.set_cons_succ])))
    refine plan_store _ ?_ (by rfl) (by rfl) ?_ (.inl rfl) ?_
    rotate_left 1
    · go_simp; first | rfl | (refine And.intro ?_ ?_ <;> rfl)
    refine plan_end ?_
    (try simp only [Act.put, List.setIfInBounds_toArray, List.set_cons_zero, List.set_cons_succ])
    generalize w7.setCell ⟨wA.heap.size, 1, none⟩ (.slice Ag (i + 1) c1') = w8 at *
    clear t0 t1 HS3 HM2 HV0 HEN HSBX HBW HBX HBZ hg3 hx3 hc1 hc2 r1 r2 own v n cs cl tf tb
    have ht2 := HF.out
    have HBZ := Lib.hid ht2.below
    have HBW : Hid (Below w.heap.size w w8) := HWA.out _ HBZ.out
    have HBX := Lib.hid (HS0.out.of_eq (HBZ.out.block _ (by rw [HSA.out]; omega)))
    obtain ⟨own, v, n, cs, cl, tf, tb, hsb, k0, k1, k2⟩ := ht2
    obtain ⟨Ac, ca0, hv0, hc1, hc2⟩ := own_form (hsb.row 2 (by simp)).1
    have en : n 2 = i := k2.1
    unfold maxLen at hc2
    have HSBX := Lib.hid hsb
    have HM2 := Lib.hid (And.intro k0 (And.intro k1 k2))
    have HV0 := Lib.hid hv0
    have HEN := Lib.hid en
    rw [en] at hc1
    clear hv0 k0 k1 k2 hsb en
    go_upto_region 6 with fail
    skip
    refine wp_region_plan [(true, 0), (true, 1), (true, 2), (true, 3), (false, 4), (false, 5), (false, 6), (true, 7), (false, 8)] 8
      (fun w' => w'.cell? ⟨wA.heap.size, 2, none⟩ = some (.slice Ac i ca0) ∧ Arr w' w.heap.size 58 [.int .i64 N, .slice A0 k.loops.length n0, .slice A1 hs.length n1, .slice A2 k.loose.length n2, .int .i64 k.rack, .int .i64 (k.done : Int)])
      (by kernel_rfl) (by kernel_rfl) (by kernel_rfl) rfl ⟨by have := HSBX.out.drew.cell (j := 2) rfl; rw [HV0.out, HEN.out] at this; exact this, HBX.out.dN 1⟩ ?_
    repeat (first
      | (refine plan_val _ ?_ (by rfl) (by rfl) ?_ ?_
         rotate_left 1
         · rintro w9 ⟨y0, hbx⟩
           have s0 := hbx.cell (k := 0) rfl
           have s1 := hbx.cell (k := 1) rfl
           have s2 := hbx.cell (k := 2) rfl
           have s3 := hbx.cell (k := 3) rfl
           have s4 := hbx.cell (k := 4) rfl
           have s5 := hbx.cell (k := 5) rfl
           go_simp; first | done | with_reducible rfl
         (try simp only [Act.put, List.setIfInBounds_toArray, List.set_cons_zero, List.set_cons_succ])))
    refine plan_call _ ?_ ?_ (by rfl) (by rfl) ?_ ?_
    rotate_left 2
    · go_simp; (refine And.intro ?_ ?_ <;> rfl)
    refine (On_any (N := N) (r := k.rack) (d := (k.done : Int)) (b := 1) (n := (i : Int)) _ ⟨_, _, _, rfl⟩ ((HM.out.held.same fun b hb => (below_dN (n := 1) HBW.out).block b (HSS.out b hb)).mono fun b hb => Nat.lt_of_lt_of_le (HSS.out b hb) HBW.out.size) ⟨_, _, _, rfl⟩ (by omega)).mono ?_
    rintro e w3 ⟨u, rfl, hu, hb3, _⟩
    rw [HM.out.on] at hu
    have HS3 := Lib.hid (HSBX.out.drew.more hb3 hu)
    obtain ⟨Au, cu, rfl, _, _, _⟩ := hu
    have y3 : w3.cell? ⟨wA.heap.size, 2, none⟩ = some (.slice Ac i ca0) := by have := HS3.out.cell (j := 2) rfl; rw [HV0.out, HEN.out] at this; exact this
    have HB3 := Lib.hid ((HBX.out.dN 1).of_eq (hb3.block _ HBX.out.lt))
    have hg3 := HS3.out.arr.lt
    have hx3 := HB3.out.lt
    clear hb3
    refine ⟨_, rfl, .inr ⟨y3, HB3.out⟩, ?_⟩
    (try simp only [Act.put, List.setIfInBounds_toArray, List.set_cons_zero, List.set_cons_succ])
    refine plan_do _ ?_ ?_ (by rfl) (by rfl) ?_ (.inr ?_) ?_
    rotate_left 2
    · go_simp; first | rfl | (refine And.intro ?_ ?_ <;> rfl)
    · exact ⟨by rw [World.cell?_alloc_lt _ _ _ (by exact hg3)]; exact y3, HB3.out.alloc _⟩
    (try simp only [Act.put, List.setIfInBounds_toArray, List.set_cons_zero, List.set_cons_succ])
    generalize hth : k.on 1 (i : Int) = thr at *
    have HTR := Lib.hid hth
    clear hth
    have hon : (w3.alloc (.cells #[.slice Au thr.length cu] 25)).ownsRow wA.heap.size 25 1 (.slice Ac i ca0) i (cs 2) := by
      have := own_al (HS3.out.row 2 (by simp)).1 (.cells #[.slice Au thr.length cu] 25)
      rw [HV0.out, HEN.out] at this
      exact this
    have hby : (i + 1) * 24 ≤ 140737488355328 := by omega
    refine plan_app _ T24 (w0 := wA) [.slice Au thr.length cu] hon (HS3.out.below.alloc HS3.out.below.size _) (Nat.le_refl _) (by rfl) (by rfl) rfl rfl rfl rfl
      (fun j u hu => by have := (Arr.new w3 #[.slice Au thr.length cu] 25).cell (k := j) hu; rwa [Nat.zero_add]) (by simp [Value.oneCell']) hby ?_
    intro v1 w7 hown1 hb1 hg1 ho1
    obtain ⟨Ag, c1', rfl, r1, r2⟩ := own_form hown1
    have hgw : w3.grownBy w7 (v 2).ownBlock := by rw [HV0.out, HEN.out]; exact grownBy_alloc_first hg1
    have HF := Lib.hid (T2.back (z := w3.heap.size + 1) HS3.out HM2.out.1 ⟨HM2.out.2.1.1, HM2.out.2.1.2.1, fun j hj => List.mem_cons_of_mem _ (HM2.out.2.1.2.2 j hj)⟩ ⟨HM2.out.2.2.1, HM2.out.2.2.2.1, fun j hj => List.mem_cons_of_mem _ (HM2.out.2.2.2.2 j hj)⟩
      (by rw [HTR.out]; exact List.mem_cons_self) hgw (Nat.le_succ _) hb1 hown1 (by rw [HV0.out, HEN.out]; rw [World.size_alloc] at ho1; exact ho1))
    have hgg : w7.heap[wA.heap.size]? = w3.heap[wA.heap.size]? := hgw.block _ hg3 fun e => absurd (HS3.out.og.symm.trans ((HS3.out.row 2 (by simp)).2 _ e.symm)) (by simp)
    have hold : ∀ x, x < wA.heap.size → w7.heap[x]? = w3.heap[x]? := fun x hx => hgw.block _ (by have := HS3.out.below.size; omega) fun e => by have := ((HS3.out.row 2 (by simp)).1.lt x e.symm).1; omega
    have t0 : w7.cell? ⟨wA.heap.size, 2, none⟩ = some (.slice Ac i ca0) := (World.cell?_of_block (a := ⟨wA.heap.size, 2, none⟩) hgg).trans y3
    have t1 : w7.frozen? ⟨wA.heap.size, 2, none⟩ = false := (World.frozen?_of_block (a := ⟨wA.heap.size, 2, none⟩) hgg).trans (HS3.out.arr.free 2)
    refine ⟨.inr ⟨t0, HB3.out.of_eq (hold _ (by rw [HSA.out]; omega))⟩, ?_⟩
    clear hown1 hb1 hg1 ho1 hgw hgg hold hon y3 HB3
    (try simp only [Act.put, List.setIfInBounds_toArray, List.set_cons_zero, List.set_cons_succ])
    repeat (first
      | (refine plan_val _ ?_ (by rfl) (by rfl) ?_ ?_
         rotate_left 1
         · rintro w9 ⟨y0, hbx⟩
           have s0 := hbx.cell (k := 0) rfl
           have s1 := hbx.cell (k := 1) rfl
           have s2 := hbx.cell (k := 2) rfl
           have s3 := hbx.cell (k := 3) rfl
           have s4 := hbx.cell (k := 4) rfl
           have s5 := hbx.cell (k := 5) rfl
           go_simp; first | done | with_reducible rfl
         (try simp only [Act.put, List.setIfInBounds_toArray, List.set_cons_zero, List.set_cons_succ])))
    refine plan_store _ ?_ (by rfl) (by rfl) ?_ (.inl rfl) ?_
    rotate_left 1
    · go_simp; first | rfl | (refine And.intro ?_ ?_ <;> rfl)
    refine plan_end ?_
    (try simp only [Act.put, List.setIfInBounds_toArray, List.set_cons_zero, List.set_cons_succ])
    clear t0 t1
    go_wp2_with fail
    go_roundg (N - (i + 1))
    case measure => omega
    case rel => exact ⟨i + 1, by omega, rfl, by go_num, HF.out⟩
end Go.Proofs.Ytaacfjeddoekfaa
