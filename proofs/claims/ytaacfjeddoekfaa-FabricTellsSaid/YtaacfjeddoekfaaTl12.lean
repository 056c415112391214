/- Texts of the seat, put together: KnitTold, KnitRefKnit, KnitRefRun. -/
import Derived.Test.YtaacfjeddoekfaaTl11
import Derived.Test.YtaacfjeddoekfaaTl2
import Derived.Test.YtaacfjeddoekfaaTl4
/- Chapter 11: the reference tells its state. (Printed by gen_told.py.) -/
namespace Go.Proofs.Ytaacfjeddoekfaa
open Go.RowKit
set_option linter.unusedVariables false
set_option linter.unusedSimpArgs false

theorem SB.start0 {w0 w : World} {g : Nat} (rs : List Nat) {u0 vo : Value} {rack : Int} (hb : Below w0.heap.size w0 w) (ha : Arr w g 27 [u0, nils, nils, vo, .int .i64 rack]) (hg : w0.heap.size ≤ g) (h0 : 0 ∉ rs) :
    SB w0 w g (fun b => if b = g then rK else rC) rs (fun i => if i = 0 then u0 else nils) (fun _ => 0) (fun _ => []) vo rack [] := by
  refine ⟨hb, ha, hg, if_pos rfl, fun r hr => ?_, fun q hq => by cases hq⟩
  have e : (if r = 0 then u0 else nils) = nils := if_neg fun h => h0 (by rw [← h]; exact hr)
  rw [e]
  exact ⟨World.ownsRow_nil _ _ _ _, Sep.nil _ _⟩
/-- of i needles of the front bed, of i2 of the back bed it is told what they hold -/
def T2 (wA w : World) (g : Nat) (k : KS) (vl vo : Value) (i i2 : Nat) : Prop := ∃ own v n cs cl tf tb, SB wA w g own [1, 2] v n cs vo k.rack cl ∧ v 0 = vl ∧
  (n 1 = i ∧ cs 1 = vrow i tf ∧ (∀ j : Nat, j < i → (tf j, k.on 0 (j : Int)) ∈ cl)) ∧ n 2 = i2 ∧ cs 2 = vrow i2 tb ∧ (∀ j : Nat, j < i2 → (tb j, k.on 1 (j : Int)) ∈ cl)
theorem T2.below {wA w : World} {g : Nat} {k : KS} {vl vo : Value} {i i2 : Nat} (h : T2 wA w g k vl vo i i2) : Below wA.heap.size wA w := by obtain ⟨own, v, n, cs, cl, tf, tb, hs, _⟩ := h; exact hs.below
section
variable {wA wx w7 : World} {g z : Nat} {k : KS} {i i2 : Nat} {own : Nat → Role} {v : Nat → Value} {n : Nat → Nat} {cs : Nat → List Value} {vl vo u v' : Value} {cl : List (Value × List Int)} {tf tb : Nat → Value}
theorem T2.front (hs : SB wA wx g own [1, 2] v n cs vo k.rack cl) (h0 : v 0 = vl)
    (h1 : n 1 = i ∧ cs 1 = vrow i tf ∧ (∀ j : Nat, j < i → (tf j, k.on 0 (j : Int)) ∈ cl)) (h2 : n 2 = i2 ∧ cs 2 = vrow i2 tb ∧ (∀ j : Nat, j < i2 → (tb j, k.on 1 (j : Int)) ∈ cl)) (hu : (u, k.on 0 (i : Int)) ∈ cl)
    (hg : wx.grownBy w7 (v 1).ownBlock) (hz : wx.heap.size ≤ z) (hb : Below wA.heap.size wA w7) (hv : w7.ownsRow wA.heap.size 25 1 v' (i + 1) (cs 1 ++ [u])) (he : v'.ownBlock = (v 1).ownBlock ∨ v'.ownBlock = some z) :
    T2 wA (w7.setCell ⟨g, 1, none⟩ v') g k vl vo (i + 1) i2 := by
  have hg2 := hs.grow (r := 1) (by simp) (by decide) hg hz hb hv he
  refine ⟨_, _, _, _, _, fun j => if j = i then u else tf j, tb, hg2, h0, ⟨if_pos rfl, ?_, vrow_mem (f := fun j : Nat => k.on 0 (j : Int)) h1.2.2 hu⟩, h2⟩
  show (if 1 = 1 then _ else _) = _
  rw [if_pos rfl, h1.2.1, vrow_snoc]
theorem T2.back (hs : SB wA wx g own [1, 2] v n cs vo k.rack cl) (h0 : v 0 = vl)
    (h1 : n 1 = i ∧ cs 1 = vrow i tf ∧ (∀ j : Nat, j < i → (tf j, k.on 0 (j : Int)) ∈ cl)) (h2 : n 2 = i2 ∧ cs 2 = vrow i2 tb ∧ (∀ j : Nat, j < i2 → (tb j, k.on 1 (j : Int)) ∈ cl)) (hu : (u, k.on 1 (i2 : Int)) ∈ cl)
    (hg : wx.grownBy w7 (v 2).ownBlock) (hz : wx.heap.size ≤ z) (hb : Below wA.heap.size wA w7) (hv : w7.ownsRow wA.heap.size 25 1 v' (i2 + 1) (cs 2 ++ [u])) (he : v'.ownBlock = (v 2).ownBlock ∨ v'.ownBlock = some z) :
    T2 wA (w7.setCell ⟨g, 2, none⟩ v') g k vl vo i (i2 + 1) := by
  have hg2 := hs.grow (r := 2) (by simp) (by decide) hg hz hb hv he
  refine ⟨_, _, _, _, _, tf, fun j => if j = i2 then u else tb j, hg2, h0, h1, if_pos rfl, ?_, vrow_mem (f := fun j : Nat => k.on 1 (j : Int)) h2.2.2 hu⟩
  show (if 2 = 2 then _ else _) = _
  rw [if_pos rfl, h2.2.1, vrow_snoc]
end
theorem T2.end_ {wA w : World} {g : Nat} {k : KS} {vl vo : Value} {N : Nat} (h : T2 wA w g k vl vo N N) {T : Nat → Prop} (hl : LoopsRd w T vl k.loops) (ho : Ints w T vo k.loose) (hT : ∀ b, wA.heap.size ≤ b → b < w.heap.size → T b) :
    ∃ v1 v2, Arr w g 27 [vl, v1, v2, vo, .int .i64 k.rack] ∧ KnR w T (.agg #[vl, v1, v2, vo, .int .i64 k.rack]) (told N k) := by
  obtain ⟨own, v, n, cs, cl, tf, tb, hs, h0, ⟨h1, h2, h3⟩, h4, h5, h6⟩ := h
  refine ⟨v 1, v 2, by rw [← h0]; exact hs.arr, vl, v 1, v 2, vo, rfl, hl, ?_, ?_, ho⟩
  · refine (hs.lists (r := 1) (by simp) (by decide) (tv := tf) ?_ ?_ fun i hi => ?_).mono fun b hb => hT b hb.1 hb.2
    · unfold told; simpa using h1
    · unfold told; simpa using h2
    · unfold told at hi ⊢; simp only [List.length_map, List.length_range] at hi; dsimp only; rw [getD_on k 0 hi]; exact h3 i hi
  · refine (hs.lists (r := 2) (by simp) (by decide) (tv := tb) ?_ ?_ fun i hi => ?_).mono fun b hb => hT b hb.1 hb.2
    · unfold told; simpa using h4
    · unfold told; simpa using h5
    · unfold told at hi ⊢; simp only [List.length_map, List.length_range] at hi; dsimp only; rw [getD_on k 1 hi]; exact h6 i hi

set_option maxRecDepth 100000 in
set_option maxHeartbeats 4000000 in
theorem Told_any {w : World} {N : Nat} {k : KS} {hs : List Hd} {vl vh vo : Value} {S : Nat → Prop} (h : RSs S w N k hs vl vh vo) (hS : ∀ b, S b → b < w.heap.size) (hN : N ≤ 128) (hi : Kinv N k) :
    Calls Try.prog 32 #[sval N vl vh vo k.rack (k.done : Int)] w fun e w' => ∃ kv, e = .returned kv ∧ KnR w' (Gr S w w') kv (told N k) ∧ Below w.heap.size w w' := by
  have HM := Lib.hid h
  have HI := Lib.hid hi
  have HSS := Lib.hid hS
  have hd := hi.d
  have hlen := h.len
  have h8 := Lib.hid hi.on
  obtain ⟨A0, n0, rfl, hA0, hA0'⟩ := h.loops.sl
  obtain ⟨A1, n1, rfl, hA1, hA1'⟩ := h.held.sl
  obtain ⟨A2, n2, rfl, hA2, hA2'⟩ := h.loose.sl
  unfold maxLen at hA0' hA1' hA2'
  unfold sval
  have HS0 : Hid (Arr ((w.alloc (.cells #[.int .i64 N, .slice A0 k.loops.length n0, .slice A1 hs.length n1, .slice A2 k.loose.length n2, .int .i64 k.rack, .int .i64 (k.done : Int)] 58)).alloc (.cells #[nils, nils, nils, nils, .int .i64 0] 27)) w.heap.size 58 [.int .i64 N, .slice A0 k.loops.length n0, .slice A1 hs.length n1, .slice A2 k.loose.length n2, .int .i64 k.rack, .int .i64 (k.done : Int)]) := (Arr.new w _ 58).alloc _
  have HR0 := Lib.hid (arr_new2 w (.cells #[.int .i64 N, .slice A0 k.loops.length n0, .slice A1 hs.length n1, .slice A2 k.loose.length n2, .int .i64 k.rack, .int .i64 (k.done : Int)] 58) #[nils, nils, nils, nils, .int .i64 0] 27)
  have HB0 : Hid (Below w.heap.size w ((w.alloc (.cells #[.int .i64 N, .slice A0 k.loops.length n0, .slice A1 hs.length n1, .slice A2 k.loose.length n2, .int .i64 k.rack, .int .i64 (k.done : Int)] 58)).alloc (.cells #[nils, nils, nils, nils, .int .i64 0] 27))) := ((Below.refl _ _).alloc (Nat.le_refl _) _).alloc (by simp) _
  have hsA : ((w.alloc (.cells #[.int .i64 N, .slice A0 k.loops.length n0, .slice A1 hs.length n1, .slice A2 k.loose.length n2, .int .i64 k.rack, .int .i64 (k.done : Int)] 58)).alloc (.cells #[nils, nils, nils, nils, .int .i64 0] 27)).heap.size = w.heap.size + 2 := by simp
  clear h hi hS
  go_enter Try.func32, Try.ntmps32
  go_upto_region 1 with fail
  generalize (w.alloc (.cells #[.int .i64 N, .slice A0 k.loops.length n0, .slice A1 hs.length n1, .slice A2 k.loose.length n2, .int .i64 k.rack, .int .i64 (k.done : Int)] 58)).alloc (.cells #[nils, nils, nils, nils, .int .i64 0] 27) = wA at *
  have HSA := Lib.hid hsA
  clear hsA
  have s1 := HS0.out.cell (k := 1) rfl
  have s3 := HS0.out.cell (k := 3) rfl
  have s4 := HS0.out.cell (k := 4) rfl
  go_upto_region 2 with fail
  have HT0 : Hid (T2 wA (wA.alloc (.cells #[.slice A0 k.loops.length n0, nils, nils, .slice A2 k.loose.length n2, .int .i64 k.rack] 27)) wA.heap.size k (.slice A0 k.loops.length n0) (.slice A2 k.loose.length n2) 0 0) :=
    ⟨_, _, _, _, _, fun _ => nils, fun _ => nils, SB.start0 (w0 := wA) [1, 2] ((Below.refl _ _).alloc (Nat.le_refl _) _) (Arr.new wA #[.slice A0 k.loops.length n0, nils, nils, .slice A2 k.loose.length n2, .int .i64 k.rack] 27) (Nat.le_refl _) (by simp), rfl, ⟨rfl, rfl, fun j hj => by omega⟩, rfl, rfl, fun j hj => by omega⟩
  generalize wA.alloc (.cells #[.slice A0 k.loops.length n0, nils, nils, .slice A2 k.loose.length n2, .int .i64 k.rack] 27) = w1 at *
  clear s1 s3 s4
  have HWA : Hid (∀ w', Below wA.heap.size wA w' → Below w.heap.size w w') := fun w' hb => HB0.out.trans (hb.mono (by rw [HSA.out]; omega))
  go_wp2_with fail
  go_loopg [4] N (fun gg ctr wr => ∃ i : Nat, i ≤ N ∧ gg = N - i ∧ ctr = .int .i64 i ∧ T2 wA wr wA.heap.size k (.slice A0 k.loops.length n0) (.slice A2 k.loose.length n2) i i)
  case atStart => exact ⟨0, Nat.zero_le _, rfl, rfl, HT0.out⟩
  case round =>
    clear HT0
    obtain ⟨i, hi, rfl, rfl, ht2⟩ := hrel
    have HBZ := Lib.hid ht2.below
    have HBW : Hid (Below w.heap.size w wr) := HWA.out _ HBZ.out
    have hbx := HS0.out.of_eq (HBZ.out.block _ (by rw [HSA.out]; omega))
    have HBX := Lib.hid hbx
    have s0 := hbx.cell (k := 0) rfl
    by_cases hlt : i < N
    case neg =>
      obtain rfl : i = N := by omega
      have hlo := (HM.out.loops.same fun b hb => HBW.out.block b (HSS.out b hb)).mono (T := fun b => b < wr.heap.size ∧ b ≠ w.heap.size + 1 ∧ (S b ∨ w.heap.size ≤ b)) fun b hb => ⟨Nat.lt_of_lt_of_le (HSS.out b hb) HBW.out.size, by have := HSS.out b hb; omega, .inl hb⟩
      have hoo := (HM.out.loose.same fun b hb => HBW.out.block b (HSS.out b hb)).mono (T := fun b => b < wr.heap.size ∧ b ≠ w.heap.size + 1 ∧ (S b ∨ w.heap.size ≤ b)) fun b hb => ⟨Nat.lt_of_lt_of_le (HSS.out b hb) HBW.out.size, by have := HSS.out b hb; omega, .inl hb⟩
      obtain ⟨v1, v2, ha, hk⟩ := ht2.end_ hlo hoo (fun b h1 h2 => ⟨h2, by rw [HSA.out] at h1; omega, .inr (by rw [HSA.out] at h1; omega)⟩)
      have HK := Lib.hid hk
      obtain ⟨vl, vf, vb, vo', e, hl, hf, hb, ho⟩ := hk
      simp only [Value.agg.injEq, Array.mk.injEq, List.cons.injEq, and_true] at e
      obtain ⟨rfl, rfl, rfl, rfl, _⟩ := e
      obtain ⟨Af, cf, tf, rfl, _⟩ := hf
      obtain ⟨Ab, cb, tb, rfl, _⟩ := hb
      have a0 := ha.cell (k := 0) rfl
      have a1 := ha.cell (k := 1) rfl
      have a2 := ha.cell (k := 2) rfl
      have a3 := ha.cell (k := 3) rfl
      have a4 := ha.cell (k := 4) rfl
      have hr := HR0.out.of_eq (HBZ.out.block _ (by rw [HSA.out]; omega))
      have r0 := hr.cell (k := 0) rfl
      have r1 := hr.cell (k := 1) rfl
      have r2 := hr.cell (k := 2) rfl
      have r3 := hr.cell (k := 3) rfl
      have r4 := hr.cell (k := 4) rfl
      have f0 := hr.free 0
      have f1 := hr.free 1
      have f2 := hr.free 2
      have f3 := hr.free 3
      have f4 := hr.free 4
      have hq := ((((hr.set 0 (.slice A0 k.loops.length n0)).set 1 (.slice Af (told i k).front.length cf)).set 2 (.slice Ab (told i k).back.length cb)).set 3 (.slice A2 k.loose.length n2)).set 4 (.int .i64 k.rack)
      have q0 := hq.cell (k := 0) rfl
      have q1 := hq.cell (k := 1) rfl
      have q2 := hq.cell (k := 2) rfl
      have q3 := hq.cell (k := 3) rfl
      have q4 := hq.cell (k := 4) rfl
      have hl1 : w.heap.size ≤ w.heap.size + 1 := by omega
      have HBF := Lib.hid (((((HBW.out.setCell (p := ⟨w.heap.size + 1, 0, none⟩) hl1 (.slice A0 k.loops.length n0)).setCell (p := ⟨w.heap.size + 1, 1, none⟩) hl1 (.slice Af (told i k).front.length cf)).setCell (p := ⟨w.heap.size + 1, 2, none⟩) hl1 (.slice Ab (told i k).back.length cb)).setCell (p := ⟨w.heap.size + 1, 3, none⟩) hl1 (.slice A2 k.loose.length n2)).setCell (p := ⟨w.heap.size + 1, 4, none⟩) hl1 (.int .i64 k.rack))
      clear ha ht2 hr hq hbx hl ho hl1 hlo hoo
      go_wp2_with fail
      refine bodyPost_ret (v := .agg #[.slice A0 k.loops.length n0, .slice Af (told i k).front.length cf, .slice Ab (told i k).back.length cb, .slice A2 k.loose.length n2, .int .i64 k.rack]) (by simp [results, Try.results32, go_sem, q0, q1, q2, q3, q4]) rfl ⟨_, rfl, ?_, HBF.out⟩
      refine (HK.out.same fun b hb => ?_).mono fun b hb => hb.2.2.imp id fun h => ⟨h, by rw [hs_set, hs_set, hs_set, hs_set, hs_set]; exact hb.1⟩
      have hne : b ≠ w.heap.size + 1 := hb.2.1
      exact ((((Below.heap_setCell _ _ _ _ hne).trans (Below.heap_setCell _ _ _ _ hne)).trans (Below.heap_setCell _ _ _ _ hne)).trans (Below.heap_setCell _ _ _ _ hne)).trans (Below.heap_setCell _ _ _ _ hne)
    clear hbx
    obtain ⟨own, v, n, cs, cl, tf, tb, hsb, k0, k1, k2⟩ := ht2
    obtain ⟨Ac, ca0, hv0, hc1, hc2⟩ := own_form (hsb.row 1 (by simp)).1
    have en : n 1 = i := k1.1
    unfold maxLen at hc2
    have HSBX := Lib.hid hsb
    have HM2 := Lib.hid (And.intro k0 (And.intro k1 k2))
    have HV0 := Lib.hid hv0
    have HEN := Lib.hid en
    rw [en] at hc1
    clear hv0 k0 k1 k2 hsb en
    go_upto_region 5 with fail
    clear s0
    refine wp_region_plan [(true, 0), (true, 1), (true, 2), (true, 3), (false, 4), (false, 5), (false, 6), (true, 7), (false, 8)] 8
      (fun w' => w'.cell? ⟨wA.heap.size, 1, none⟩ = some (.slice Ac i ca0) ∧ Arr w' w.heap.size 58 [.int .i64 N, .slice A0 k.loops.length n0, .slice A1 hs.length n1, .slice A2 k.loose.length n2, .int .i64 k.rack, .int .i64 (k.done : Int)])
      (by kernel_rfl) (by kernel_rfl) (by kernel_rfl) rfl ⟨by have := HSBX.out.drew.cell (j := 1) rfl; rw [HV0.out, HEN.out] at this; exact this, HBX.out.dN 1⟩ ?_
    repeat (first
      | (refine plan_val _ ?_ (by rfl) (by rfl) ?_ ?_
         rotate_left 1
         · rintro w9 ⟨y0, hbx⟩
           have s0 := hbx.cell (k := 0) rfl
           have s1 := hbx.cell (k := 1) rfl
           have s2 := hbx.cell (k := 2) rfl
           have s3 := hbx.cell (k := 3) rfl
           have s4 := hbx.cell (k := 4) rfl
           have s5 := hbx.cell (k := 5) rfl
           go_simp; first | done | with_reducible rfl
         (try simp only [Act.put, List.setIfInBounds_toArray, List.set_cons_zero, List.set_cons_succ])))
    refine plan_call _ ?_ ?_ (by rfl) (by rfl) ?_ ?_
    rotate_left 2
    · go_simp; (refine And.intro ?_ ?_ <;> rfl)
    refine (On_any (N := N) (r := k.rack) (d := (k.done : Int)) (b := 0) (n := (i : Int)) _ ⟨_, _, _, rfl⟩ ((HM.out.held.same fun b hb => (below_dN (n := 1) HBW.out).block b (HSS.out b hb)).mono fun b hb => Nat.lt_of_lt_of_le (HSS.out b hb) HBW.out.size) ⟨_, _, _, rfl⟩ (by omega)).mono ?_
    rintro e w3 ⟨u, rfl, hu, hb3, _⟩
    rw [HM.out.on] at hu
    have HS3 := Lib.hid (HSBX.out.drew.more hb3 hu)
    obtain ⟨Au, cu, rfl, _, _, _⟩ := hu
    have y3 : w3.cell? ⟨wA.heap.size, 1, none⟩ = some (.slice Ac i ca0) := by have := HS3.out.cell (j := 1) rfl; rw [HV0.out, HEN.out] at this; exact this
    have HB3 := Lib.hid ((HBX.out.dN 1).of_eq (hb3.block _ HBX.out.lt))
    have hg3 := HS3.out.arr.lt
    have hx3 := HB3.out.lt
    clear hb3
    refine ⟨_, rfl, .inr ⟨y3, HB3.out⟩, ?_⟩
    (try simp only [Act.put, List.setIfInBounds_toArray, List.set_cons_zero, List.set_cons_succ])
    refine plan_do _ ?_ ?_ (by rfl) (by rfl) ?_ (.inr ?_) ?_
    rotate_left 2
    · go_simp; first | rfl | (refine And.intro ?_ ?_ <;> rfl)
    · exact ⟨by rw [World.cell?_alloc_lt _ _ _ (by exact hg3)]; exact y3, HB3.out.alloc _⟩
    (try simp only [Act.put, List.setIfInBounds_toArray, List.set_cons_zero, List.set_cons_succ])
    generalize hth : k.on 0 (i : Int) = thr at *
    have HTR := Lib.hid hth
    clear hth
    have hon : (w3.alloc (.cells #[.slice Au thr.length cu] 25)).ownsRow wA.heap.size 25 1 (.slice Ac i ca0) i (cs 1) := by
      have := own_al (HS3.out.row 1 (by simp)).1 (.cells #[.slice Au thr.length cu] 25)
      rw [HV0.out, HEN.out] at this
      exact this
    have hby : (i + 1) * 24 ≤ 140737488355328 := by omega
    refine plan_app _ T24 (w0 := wA) [.slice Au thr.length cu] hon (HS3.out.below.alloc HS3.out.below.size _) (Nat.le_refl _) (by rfl) (by rfl) rfl rfl rfl rfl
      (fun j u hu => by have := (Arr.new w3 #[.slice Au thr.length cu] 25).cell (k := j) hu; rwa [Nat.zero_add]) (by simp [Value.oneCell']) hby ?_
    intro v1 w7 hown1 hb1 hg1 ho1
    obtain ⟨Ag, c1', rfl, r1, r2⟩ := own_form hown1
    have hgw : w3.grownBy w7 (v 1).ownBlock := by rw [HV0.out, HEN.out]; exact grownBy_alloc_first hg1
    have HF := Lib.hid (T2.front (z := w3.heap.size + 1) HS3.out HM2.out.1 ⟨HM2.out.2.1.1, HM2.out.2.1.2.1, fun j hj => List.mem_cons_of_mem _ (HM2.out.2.1.2.2 j hj)⟩ ⟨HM2.out.2.2.1, HM2.out.2.2.2.1, fun j hj => List.mem_cons_of_mem _ (HM2.out.2.2.2.2 j hj)⟩
      (by rw [HTR.out]; exact List.mem_cons_self) hgw (Nat.le_succ _) hb1 hown1 (by rw [HV0.out, HEN.out]; rw [World.size_alloc] at ho1; exact ho1))
    have hgg : w7.heap[wA.heap.size]? = w3.heap[wA.heap.size]? := hgw.block _ hg3 fun e => absurd (HS3.out.og.symm.trans ((HS3.out.row 1 (by simp)).2 _ e.symm)) (by simp)
    have hold : ∀ x, x < wA.heap.size → w7.heap[x]? = w3.heap[x]? := fun x hx => hgw.block _ (by have := HS3.out.below.size; omega) fun e => by have := ((HS3.out.row 1 (by simp)).1.lt x e.symm).1; omega
    have t0 : w7.cell? ⟨wA.heap.size, 1, none⟩ = some (.slice Ac i ca0) := (World.cell?_of_block (a := ⟨wA.heap.size, 1, none⟩) hgg).trans y3
    have t1 : w7.frozen? ⟨wA.heap.size, 1, none⟩ = false := (World.frozen?_of_block (a := ⟨wA.heap.size, 1, none⟩) hgg).trans (HS3.out.arr.free 1)
    refine ⟨.inr ⟨t0, HB3.out.of_eq (hold _ (by rw [HSA.out]; omega))⟩, ?_⟩
    clear hown1 hb1 hg1 ho1 hgw hgg hold hon y3 HB3
    (try simp only [Act.put, List.setIfInBounds_toArray, List.set_cons_zero, List.set_cons_succ])
    repeat (first
      | (refine plan_val _ ?_ (by rfl) (by rfl) ?_ ?_
         rotate_left 1
         · rintro w9 ⟨y0, hbx⟩
           have s0 := hbx.cell (k := 0) rfl
           have s1 := hbx.cell (k := 1) rfl
           have s2 := hbx.cell (k := 2) rfl
           have s3 := hbx.cell (k := 3) rfl
           have s4 := hbx.cell (k := 4) rfl
           have s5 := hbx.cell (k := 5) rfl
           go_simp; first | done | with_reducible rfl
         (try simp only [Act.put, List.setIfInBounds_toArray, List.set_cons_zero, List.set_cons_succ])))
    refine plan_store _ ?_ (by rfl) (by rfl) ?_ (.inl rfl) ?_
    rotate_left 1
    · go_simp; first | rfl | (refine And.intro ?_ ?_ <;> rfl)
    refine plan_end ?_
    (try simp only [Act.put, List.setIfInBounds_toArray, List.set_cons_zero, List.set_cons_succ])
    generalize w7.setCell ⟨wA.heap.size, 1, none⟩ (.slice Ag (i + 1) c1') = w8 at *
    clear t0 t1 HS3 HM2 HV0 HEN HSBX HBW HBX HBZ hg3 hx3 hc1 hc2 r1 r2 own v n cs cl tf tb
    have ht2 := HF.out
    have HBZ := Lib.hid ht2.below
    have HBW : Hid (Below w.heap.size w w8) := HWA.out _ HBZ.out
    have HBX := Lib.hid (HS0.out.of_eq (HBZ.out.block _ (by rw [HSA.out]; omega)))
    obtain ⟨own, v, n, cs, cl, tf, tb, hsb, k0, k1, k2⟩ := ht2
    obtain ⟨Ac, ca0, hv0, hc1, hc2⟩ := own_form (hsb.row 2 (by simp)).1
    have en : n 2 = i := k2.1
    unfold maxLen at hc2
    have HSBX := Lib.hid hsb
    have HM2 := Lib.hid (And.intro k0 (And.intro k1 k2))
    have HV0 := Lib.hid hv0
    have HEN := Lib.hid en
    rw [en] at hc1
    clear hv0 k0 k1 k2 hsb en
    go_upto_region 6 with fail
    skip
    refine wp_region_plan [(true, 0), (true, 1), (true, 2), (true, 3), (false, 4), (false, 5), (false, 6), (true, 7), (false, 8)] 8
      (fun w' => w'.cell? ⟨wA.heap.size, 2, none⟩ = some (.slice Ac i ca0) ∧ Arr w' w.heap.size 58 [.int .i64 N, .slice A0 k.loops.length n0, .slice A1 hs.length n1, .slice A2 k.loose.length n2, .int .i64 k.rack, .int .i64 (k.done : Int)])
      (by kernel_rfl) (by kernel_rfl) (by kernel_rfl) rfl ⟨by have := HSBX.out.drew.cell (j := 2) rfl; rw [HV0.out, HEN.out] at this; exact this, HBX.out.dN 1⟩ ?_
    repeat (first
      | (refine plan_val _ ?_ (by rfl) (by rfl) ?_ ?_
         rotate_left 1
         · rintro w9 ⟨y0, hbx⟩
           have s0 := hbx.cell (k := 0) rfl
           have s1 := hbx.cell (k := 1) rfl
           have s2 := hbx.cell (k := 2) rfl
           have s3 := hbx.cell (k := 3) rfl
           have s4 := hbx.cell (k := 4) rfl
           have s5 := hbx.cell (k := 5) rfl
           go_simp; first | done | with_reducible rfl
         (try simp only [Act.put, List.setIfInBounds_toArray, List.set_cons_zero, List.set_cons_succ])))
    refine plan_call _ ?_ ?_ (by rfl) (by rfl) ?_ ?_
    rotate_left 2
    · go_simp; (refine And.intro ?_ ?_ <;> rfl)
    refine (On_any (N := N) (r := k.rack) (d := (k.done : Int)) (b := 1) (n := (i : Int)) _ ⟨_, _, _, rfl⟩ ((HM.out.held.same fun b hb => (below_dN (n := 1) HBW.out).block b (HSS.out b hb)).mono fun b hb => Nat.lt_of_lt_of_le (HSS.out b hb) HBW.out.size) ⟨_, _, _, rfl⟩ (by omega)).mono ?_
    rintro e w3 ⟨u, rfl, hu, hb3, _⟩
    rw [HM.out.on] at hu
    have HS3 := Lib.hid (HSBX.out.drew.more hb3 hu)
    obtain ⟨Au, cu, rfl, _, _, _⟩ := hu
    have y3 : w3.cell? ⟨wA.heap.size, 2, none⟩ = some (.slice Ac i ca0) := by have := HS3.out.cell (j := 2) rfl; rw [HV0.out, HEN.out] at this; exact this
    have HB3 := Lib.hid ((HBX.out.dN 1).of_eq (hb3.block _ HBX.out.lt))
    have hg3 := HS3.out.arr.lt
    have hx3 := HB3.out.lt
    clear hb3
    refine ⟨_, rfl, .inr ⟨y3, HB3.out⟩, ?_⟩
    (try simp only [Act.put, List.setIfInBounds_toArray, List.set_cons_zero, List.set_cons_succ])
    refine plan_do _ ?_ ?_ (by rfl) (by rfl) ?_ (.inr ?_) ?_
    rotate_left 2
    · go_simp; first | rfl | (refine And.intro ?_ ?_ <;> rfl)
    · exact ⟨by rw [World.cell?_alloc_lt _ _ _ (by exact hg3)]; exact y3, HB3.out.alloc _⟩
    (try simp only [Act.put, List.setIfInBounds_toArray, List.set_cons_zero, List.set_cons_succ])
    generalize hth : k.on 1 (i : Int) = thr at *
    have HTR := Lib.hid hth
    clear hth
    have hon : (w3.alloc (.cells #[.slice Au thr.length cu] 25)).ownsRow wA.heap.size 25 1 (.slice Ac i ca0) i (cs 2) := by
      have := own_al (HS3.out.row 2 (by simp)).1 (.cells #[.slice Au thr.length cu] 25)
      rw [HV0.out, HEN.out] at this
      exact this
    have hby : (i + 1) * 24 ≤ 140737488355328 := by omega
    refine plan_app _ T24 (w0 := wA) [.slice Au thr.length cu] hon (HS3.out.below.alloc HS3.out.below.size _) (Nat.le_refl _) (by rfl) (by rfl) rfl rfl rfl rfl
      (fun j u hu => by have := (Arr.new w3 #[.slice Au thr.length cu] 25).cell (k := j) hu; rwa [Nat.zero_add]) (by simp [Value.oneCell']) hby ?_
    intro v1 w7 hown1 hb1 hg1 ho1
    obtain ⟨Ag, c1', rfl, r1, r2⟩ := own_form hown1
    have hgw : w3.grownBy w7 (v 2).ownBlock := by rw [HV0.out, HEN.out]; exact grownBy_alloc_first hg1
    have HF := Lib.hid (T2.back (z := w3.heap.size + 1) HS3.out HM2.out.1 ⟨HM2.out.2.1.1, HM2.out.2.1.2.1, fun j hj => List.mem_cons_of_mem _ (HM2.out.2.1.2.2 j hj)⟩ ⟨HM2.out.2.2.1, HM2.out.2.2.2.1, fun j hj => List.mem_cons_of_mem _ (HM2.out.2.2.2.2 j hj)⟩
      (by rw [HTR.out]; exact List.mem_cons_self) hgw (Nat.le_succ _) hb1 hown1 (by rw [HV0.out, HEN.out]; rw [World.size_alloc] at ho1; exact ho1))
    have hgg : w7.heap[wA.heap.size]? = w3.heap[wA.heap.size]? := hgw.block _ hg3 fun e => absurd (HS3.out.og.symm.trans ((HS3.out.row 2 (by simp)).2 _ e.symm)) (by simp)
    have hold : ∀ x, x < wA.heap.size → w7.heap[x]? = w3.heap[x]? := fun x hx => hgw.block _ (by have := HS3.out.below.size; omega) fun e => by have := ((HS3.out.row 2 (by simp)).1.lt x e.symm).1; omega
    have t0 : w7.cell? ⟨wA.heap.size, 2, none⟩ = some (.slice Ac i ca0) := (World.cell?_of_block (a := ⟨wA.heap.size, 2, none⟩) hgg).trans y3
    have t1 : w7.frozen? ⟨wA.heap.size, 2, none⟩ = false := (World.frozen?_of_block (a := ⟨wA.heap.size, 2, none⟩) hgg).trans (HS3.out.arr.free 2)
    refine ⟨.inr ⟨t0, HB3.out.of_eq (hold _ (by rw [HSA.out]; omega))⟩, ?_⟩
    clear hown1 hb1 hg1 ho1 hgw hgg hold hon y3 HB3
    (try simp only [Act.put, List.setIfInBounds_toArray, List.set_cons_zero, List.set_cons_succ])
    repeat (first
      | (refine plan_val _ ?_ (by rfl) (by rfl) ?_ ?_
         rotate_left 1
         · rintro w9 ⟨y0, hbx⟩
           have s0 := hbx.cell (k := 0) rfl
           have s1 := hbx.cell (k := 1) rfl
           have s2 := hbx.cell (k := 2) rfl
           have s3 := hbx.cell (k := 3) rfl
           have s4 := hbx.cell (k := 4) rfl
           have s5 := hbx.cell (k := 5) rfl
           go_simp; first | done | with_reducible rfl
         (try simp only [Act.put, List.setIfInBounds_toArray, List.set_cons_zero, List.set_cons_succ])))
    refine plan_store _ ?_ (by rfl) (by rfl) ?_ (.inl rfl) ?_
    rotate_left 1
    · go_simp; first | rfl | (refine And.intro ?_ ?_ <;> rfl)
    refine plan_end ?_
    (try simp only [Act.put, List.setIfInBounds_toArray, List.set_cons_zero, List.set_cons_succ])
    clear t0 t1
    go_wp2_with fail
    go_roundg (N - (i + 1))
    case measure => omega
    case rel => exact ⟨i + 1, by omega, rfl, by go_num, HF.out⟩
end Go.Proofs.Ytaacfjeddoekfaa
/- Chapter 11: the reference's Knit. -/
namespace Go.Proofs.Ytaacfjeddoekfaa
open Go.RowKit
set_option linter.unusedVariables false
set_option linter.unusedSimpArgs false

def Qs (w wr : World) (out : Value) : Nat → Prop := fun b => w.heap.size + 2 ≤ b ∧ b < wr.heap.size ∧ out.ownBlock ≠ some b
/-- the result's box, the state's box, a row of our own, the state -/
structure QK (w wr : World) (N : Nat) (k : KS) (hs : List Hd) (vl vh vo out : Value) (es : List Int) : Prop where
  below : Below w.heap.size w wr
  size : w.heap.size + 2 ≤ wr.heap.size
  r : Arr wr w.heap.size 27 [nils, nils, nils, nils, .int .i64 0]
  q : Arr wr (w.heap.size + 1) 58 [.int .i64 N, vl, vh, vo, .int .i64 k.rack, .int .i64 (k.done : Int)]
  ou : wr.ownsRow (w.heap.size + 2) 28 1 out es.length (ints es)
  st : RSs (Qs w wr out) wr N k hs vl vh vo
section
variable {w wr w2 w4 : World} {N : Nat} {k k' : KS} {hs hs' : List Hd} {vl vh vo out out' vl' vh' vo' : Value} {es es' : List Int}
theorem Qs.mono (hb : wr.heap.size ≤ w2.heap.size) (b : Nat) (h : Qs w wr out b) : Qs w w2 out b := ⟨h.1, Nat.lt_of_lt_of_le h.2.1 hb, h.2.2⟩
theorem QK.next (h : QK w wr N k hs vl vh vo out es) (hb : Below wr.heap.size wr w2) : QK w w2 N k hs vl vh vo out es :=
  ⟨h.below.trans (hb.mono h.below.size), Nat.le_trans h.size hb.size, h.r.of_eq (hb.block _ h.r.lt), h.q.of_eq (hb.block _ h.q.lt), own_below h.ou hb (Nat.le_refl _), (h.st.same fun b hb' => hb.block b hb'.2.1).mono (Qs.mono hb.size)⟩
theorem QK.app (h : QK w wr N k hs vl vh vo out es) {z n : Nat} {us : List Value} (hv : w2.ownsRow (w.heap.size + 2) 28 1 out' n us) (hb : Below (w.heap.size + 2) wr w2) (hg : wr.grownBy w2 out.ownBlock) (ho : out'.ownBlock = out.ownBlock ∨ out'.ownBlock = some z) (hz : wr.heap.size ≤ z)
    (hn : n = es'.length) (hus : us = ints es') : QK w w2 N k hs vl vh vo out' es' := by
  subst hn hus
  refine ⟨h.below.trans (hb.mono (by omega)), Nat.le_trans h.size hb.size, h.r.of_eq (hb.block _ (by omega)), h.q.of_eq (hb.block _ (by omega)), hv, (h.st.same fun b hb' => hg.block b hb'.2.1 (Ne.symm hb'.2.2)).mono fun b hb' => ⟨hb'.1, Nat.lt_of_lt_of_le hb'.2.1 hg.size, ?_⟩⟩
  rcases ho with e | e
  · rw [e]; exact hb'.2.2
  · rw [e]; intro c; injection c with c; have := hb'.2.1; omega
theorem QK.store (h : QK w wr N k hs vl vh vo out es) (hb : Below wr.heap.size wr w4) (hst : RSs (Gr (Qs w wr out) wr w4) w4 N k' hs' vl' vh' vo') :
    QK w ((((((w4.setCell ⟨w.heap.size + 1, 0, none⟩ (.int .i64 N)).setCell ⟨w.heap.size + 1, 1, none⟩ vl').setCell ⟨w.heap.size + 1, 2, none⟩ vh').setCell ⟨w.heap.size + 1, 3, none⟩ vo').setCell ⟨w.heap.size + 1, 4, none⟩ (.int .i64 k'.rack)).setCell ⟨w.heap.size + 1, 5, none⟩ (.int .i64 (k'.done : Int))) N k' hs' vl' vh' vo' out es := by
  have n := h.next hb
  have hl : w.heap.size ≤ w.heap.size + 1 := by omega
  have hsz := h.size
  refine ⟨(((((n.below.setCell hl _).setCell hl _).setCell hl _).setCell hl _).setCell hl _).setCell hl _, by rw [hs_set, hs_set, hs_set, hs_set, hs_set, hs_set]; exact n.size,
    (((((n.r.far (p := ⟨w.heap.size + 1, 0, none⟩) (by show w.heap.size ≠ w.heap.size + 1; omega) _).far (p := ⟨w.heap.size + 1, 1, none⟩) (by show w.heap.size ≠ w.heap.size + 1; omega) _).far (p := ⟨w.heap.size + 1, 2, none⟩) (by show w.heap.size ≠ w.heap.size + 1; omega) _).far (p := ⟨w.heap.size + 1, 3, none⟩) (by show w.heap.size ≠ w.heap.size + 1; omega) _).far (p := ⟨w.heap.size + 1, 4, none⟩) (by show w.heap.size ≠ w.heap.size + 1; omega) _).far (p := ⟨w.heap.size + 1, 5, none⟩) (by show w.heap.size ≠ w.heap.size + 1; omega) _,
    (((((n.q.set 0 _).set 1 _).set 2 _).set 3 _).set 4 _).set 5 _, own_box (own_box (own_box (own_box (own_box (own_box n.ou (by omega) _) (by omega) _) (by omega) _) (by omega) _) (by omega) _) (by omega) _, ?_⟩
  have hne : ∀ b, Gr (Qs w wr out) wr w4 b → b ≠ w.heap.size + 1 := fun b hb' => by
    rcases hb' with h1 | h1
    · have := h1.1; omega
    · omega
  refine (hst.same fun b hb' => ?_).mono fun b hb' => ?_
  · exact (((((Below.heap_setCell _ _ _ _ (hne b hb')).trans (Below.heap_setCell _ _ _ _ (hne b hb'))).trans (Below.heap_setCell _ _ _ _ (hne b hb'))).trans (Below.heap_setCell _ _ _ _ (hne b hb'))).trans (Below.heap_setCell _ _ _ _ (hne b hb'))).trans (Below.heap_setCell _ _ _ _ (hne b hb'))
  · rcases hb' with h1 | h1
    · exact ⟨h1.1, by rw [hs_set, hs_set, hs_set, hs_set, hs_set, hs_set]; exact Nat.lt_of_lt_of_le h1.2.1 hb.size, h1.2.2⟩
    · exact ⟨by omega, by rw [hs_set, hs_set, hs_set, hs_set, hs_set, hs_set]; exact h1.2, fun e => by have := (h.ou.lt b e).2; omega⟩
end

set_option maxRecDepth 100000 in
set_option maxHeartbeats 4000000 in
theorem refKnit_own {v : Value} {l : List Sti} (N : Nat) (hN1 : 1 ≤ N) (hN : N ≤ 128) (w : World) (hv : Stitches w (fun b => b < w.heap.size) v l) (hl : l.length ≤ 4000000000000) :
    Calls Try.prog 15 #[.int .i64 (N : Int), v] w fun e w' => ∃ u kv, e = .returned (.tuple #[u, kv, .int .i64 0]) ∧ Ints w' (fun b => w.heap.size ≤ b ∧ b < w'.heap.size) u (errsK N zeroK l) ∧ KnR w' (fun b => w.heap.size ≤ b ∧ b < w'.heap.size) kv (told N (afterK N l)) ∧ Below w.heap.size w w' := by
  have HV := Lib.hid hv
  have HQ0 : Hid (QK w ((w.alloc (.cells #[nils, nils, nils, nils, .int .i64 0] 27)).alloc (.cells #[.int .i64 (N : Int), nils, nils, nils, .int .i64 0, .int .i64 0] 58)) N zeroK [] nils nils nils nils []) := by
    refine ⟨((Below.refl _ _).alloc (Nat.le_refl _) _).alloc (by simp) _, by simp, (Arr.new w #[nils, nils, nils, nils, .int .i64 0] 27).alloc _, arr_new2 w _ #[.int .i64 (N : Int), nils, nils, nils, .int .i64 0, .int .i64 0] 58, World.ownsRow_nil _ _ _ _, ?_⟩
    exact ⟨LoopsRd.nil _ _, ⟨none, 0, rfl, Nat.le_refl _, by simp [maxLen], .nil _ _ _ _⟩, ints_nil, fun b n => rfl, Nat.le_refl _, .inl rfl, .inl rfl, .inl rfl⟩
  obtain ⟨A, c, rfl, h1, h2, hr⟩ := hv
  clear hr
  unfold maxLen at h2
  go_enter Try.func15, Try.ntmps15
  go_upto_region 4 with fail
  generalize (w.alloc (.cells #[nils, nils, nils, nils, .int .i64 0] 27)).alloc (.cells #[.int .i64 (N : Int), nils, nils, nils, .int .i64 0, .int .i64 0] 58) = wA at *
  go_wp2_with fail
  go_loopg [8, 23] l.length (fun gg out ctr wr => ∃ i vl vh vo hs, i ≤ l.length ∧ gg = l.length - i ∧ ctr = .int .i64 i ∧ QK w wr N (afterK N (l.take i)) hs vl vh vo out (errsK N zeroK (l.take i)))
  case atStart => exact ⟨0, nils, nils, nils, [], by omega, rfl, rfl, HQ0.out⟩
  case round =>
    clear HQ0
    obtain ⟨i, vl, vh, vo, hs, hi, rfl, rfl, hq⟩ := hrel
    by_cases hlt : i < l.length
    case neg =>
      obtain rfl : i = l.length := by omega
      rw [List.take_length] at hq
      have HQ := Lib.hid hq
      obtain ⟨A0, n0, rfl, hA0, hA0'⟩ := hq.st.loops.sl
      obtain ⟨A1, n1, rfl, hA1, hA1'⟩ := hq.st.held.sl
      obtain ⟨A2, n2, rfl, hA2, hA2'⟩ := hq.st.loose.sl
      obtain ⟨Ao, co, rfl, _, _⟩ := own_form hq.ou
      have q0 := HQ.out.q.cell (k := 0) rfl
      have q1 := HQ.out.q.cell (k := 1) rfl
      have q2 := HQ.out.q.cell (k := 2) rfl
      have q3 := HQ.out.q.cell (k := 3) rfl
      have q4 := HQ.out.q.cell (k := 4) rfl
      have q5 := HQ.out.q.cell (k := 5) rfl
      clear hq
      go_wp2_with fail
      refine (Told_any HQ.out.st (fun b hb => hb.2.1) hN (kinv_after N l)).mono ?_
      rintro e w3 ⟨kv, rfl, hk, hb3⟩
      have HK := Lib.hid hk
      have HQ3 := Lib.hid (HQ.out.next hb3)
      obtain ⟨vl, vf, vb, vo, rfl, hl', hf', hb', ho'⟩ := hk
      obtain ⟨Aq, cq, tq, rfl, _⟩ := hl'
      obtain ⟨Af, cf, tf, rfl, _⟩ := hf'
      obtain ⟨Ab, cb, tb, rfl, _⟩ := hb'
      obtain ⟨Ap, cp, rfl, _⟩ := ho'
      have hrr := HQ3.out.r
      have hszr := HQ.out.size
      have hsz3 := hb3.size
      clear hb3
      have r0 := hrr.cell (k := 0) rfl
      have r1 := hrr.cell (k := 1) rfl
      have r2 := hrr.cell (k := 2) rfl
      have r3 := hrr.cell (k := 3) rfl
      have r4 := hrr.cell (k := 4) rfl
      have f0 := hrr.free 0
      have f1 := hrr.free 1
      have f2 := hrr.free 2
      have f3 := hrr.free 3
      have f4 := hrr.free 4
      generalize hkn : told N (afterK N l) = kn at *
      have HKN := Lib.hid hkn
      clear hkn
      have hq := ((((hrr.set 0 (.slice Aq kn.loops.length cq)).set 1 (.slice Af kn.front.length cf)).set 2 (.slice Ab kn.back.length cb)).set 3 (.slice Ap kn.loose.length cp)).set 4 (.int .i64 kn.rack)
      have t0 := hq.cell (k := 0) rfl
      have t1 := hq.cell (k := 1) rfl
      have t2 := hq.cell (k := 2) rfl
      have t3 := hq.cell (k := 3) rfl
      have t4 := hq.cell (k := 4) rfl
      have HBF := Lib.hid (((((HQ3.out.below.setCell (p := ⟨w.heap.size, 0, none⟩) (Nat.le_refl _) (.slice Aq kn.loops.length cq)).setCell (p := ⟨w.heap.size, 1, none⟩) (Nat.le_refl _) (.slice Af kn.front.length cf)).setCell (p := ⟨w.heap.size, 2, none⟩) (Nat.le_refl _) (.slice Ab kn.back.length cb)).setCell (p := ⟨w.heap.size, 3, none⟩) (Nat.le_refl _) (.slice Ap kn.loose.length cp)).setCell (p := ⟨w.heap.size, 4, none⟩) (Nat.le_refl _) (.int .i64 kn.rack))
      have HFAR : Hid (∀ b, b ≠ w.heap.size → (((((w3.setCell ⟨w.heap.size, 0, none⟩ (.slice Aq kn.loops.length cq)).setCell ⟨w.heap.size, 1, none⟩ (.slice Af kn.front.length cf)).setCell ⟨w.heap.size, 2, none⟩ (.slice Ab kn.back.length cb)).setCell ⟨w.heap.size, 3, none⟩ (.slice Ap kn.loose.length cp)).setCell ⟨w.heap.size, 4, none⟩ (.int .i64 kn.rack)).heap[b]? = w3.heap[b]?) := fun b hb =>
        ((((Below.heap_setCell _ _ _ _ hb).trans (Below.heap_setCell _ _ _ _ hb)).trans (Below.heap_setCell _ _ _ _ hb)).trans (Below.heap_setCell _ _ _ _ hb)).trans (Below.heap_setCell _ _ _ _ hb)
      have HSZ : Hid ((((((w3.setCell ⟨w.heap.size, 0, none⟩ (.slice Aq kn.loops.length cq)).setCell ⟨w.heap.size, 1, none⟩ (.slice Af kn.front.length cf)).setCell ⟨w.heap.size, 2, none⟩ (.slice Ab kn.back.length cb)).setCell ⟨w.heap.size, 3, none⟩ (.slice Ap kn.loose.length cp)).setCell ⟨w.heap.size, 4, none⟩ (.int .i64 kn.rack)).heap.size = w3.heap.size) := by show _ = _; simp [World.setCell]
      clear hrr hq
      go_wp2_with fail
      refine bodyPost_ret (v := .tuple #[.slice Ao (errsK N zeroK l).length co, .agg #[.slice Aq kn.loops.length cq, .slice Af kn.front.length cf, .slice Ab kn.back.length cb, .slice Ap kn.loose.length cp, .int .i64 kn.rack], .int .i64 0]) (by simp [results, Try.results15, go_sem, t0, t1, t2, t3, t4]) rfl ⟨_, _, rfl, ?_, ?_, HBF.out⟩
      · refine ((Ints.of_own HQ3.out.ou).same fun b hb => HFAR.out b (by have := hb.1; omega)).mono fun b hb => ⟨by have := hb.1; omega, by rw [HSZ.out]; exact hb.2⟩
      · rw [HKN.out]
        refine (HK.out.same fun b hb => HFAR.out b ?_).mono fun b hb => ?_
        · rcases hb with h | h
          · have := h.1; omega
          · omega
        · rw [HSZ.out]
          rcases hb with h | h
          · exact ⟨by have := h.1; omega, Nat.lt_of_lt_of_le h.2.1 hsz3⟩
          · exact ⟨by omega, h.2⟩
    have HBW := Lib.hid hq.below
    obtain ⟨b, o, e, hbb, x0, x1, x2, x3, x4⟩ := sti_cells (srow_of (HV.out.same (Same.of_below HBW.out))) hlt
    cases e
    have hbw : b < wr.heap.size := Nat.lt_of_lt_of_le hbb HBW.out.size
    have HE : Hid (errsK N zeroK (l.take (i + 1)) = errsK N zeroK (l.take i) ++ [wrongK N (afterK N (l.take i)) l[i]] ∧ afterK N (l.take (i + 1)) = doK N (afterK N (l.take i)) l[i]) := ⟨errsK_take hlt, afterK_take hlt⟩
    have HKI := Lib.hid (kinv_after N (l.take i))
    have hel : (errsK N zeroK (l.take i)).length = i := by rw [errsK_len, List.length_take]; omega
    generalize l[i] = x at *
    generalize afterK N (l.take i) = k at *
    generalize errsK N zeroK (l.take i) = es at *
    have HAL : Hid (Below wr.heap.size wr (wr.alloc (.cells #[.int .i64 x.d, .int .i64 x.b, .int .i64 x.n, .int .i64 x.c, .int .i64 x.t] 44))) := (Below.refl _ _).alloc (Nat.le_refl _) _
    have HQ := Lib.hid (hq.next HAL.out)
    have HX := Lib.hid (Arr.new wr #[.int .i64 x.d, .int .i64 x.b, .int .i64 x.n, .int .i64 x.c, .int .i64 x.t] 44)
    have HLT : Hid (∀ g, u8.ownBlock = some g → g < wr.heap.size) := fun g hg => (hq.ou.lt g hg).2
    obtain ⟨A0, n0, rfl, hA0, hA0'⟩ := hq.st.loops.sl
    obtain ⟨A1, n1, rfl, hA1, hA1'⟩ := hq.st.held.sl
    obtain ⟨A2, n2, rfl, hA2, hA2'⟩ := hq.st.loose.sl
    clear hq
    go_upto_region 8 with fail
    have hxl : wr.heap.size < (wr.alloc (.cells #[.int .i64 x.d, .int .i64 x.b, .int .i64 x.n, .int .i64 x.c, .int .i64 x.t] 44)).heap.size := by simp
    generalize wr.alloc (.cells #[.int .i64 x.d, .int .i64 x.b, .int .i64 x.n, .int .i64 x.c, .int .i64 x.t] 44) = w2 at *
    clear x0 x1 x2 x3 x4 HAL
    have q0 := HQ.out.q.cell (k := 0) rfl
    have q1 := HQ.out.q.cell (k := 1) rfl
    have q2 := HQ.out.q.cell (k := 2) rfl
    have q3 := HQ.out.q.cell (k := 3) rfl
    have q4 := HQ.out.q.cell (k := 4) rfl
    have q5 := HQ.out.q.cell (k := 5) rfl
    have x0 := HX.out.cell (k := 0) rfl
    have x1 := HX.out.cell (k := 1) rfl
    have x2 := HX.out.cell (k := 2) rfl
    have x3 := HX.out.cell (k := 3) rfl
    have x4 := HX.out.cell (k := 4) rfl
    go_wp2_with fail
    refine (refWrong_any (HQ.out.st.rs fun b hb => hb.2.1) hN HKI.out x).mono ?_
    rintro e w3 ⟨rfl, hb3⟩
    have HQ3 := Lib.hid (HQ.out.next hb3)
    have HX3 := Lib.hid (HX.out.of_eq (hb3.block _ hxl))
    have hx3 : wr.heap.size < w3.heap.size := Nat.lt_of_lt_of_le hxl hb3.size
    have hsz3 := HQ3.out.size
    clear q0 q1 q2 q3 q4 q5 x0 x1 x2 x3 x4 hb3 HQ HX hxl
    generalize her : wrongK N k x = er at *
    have HER := Lib.hid her
    clear her
    go_upto_region 10 with (
      at_builtin
      refine app_el T34 [.int .i64 er] HQ3.out.ou (Below.refl _ _) hsz3 rfl rfl rfl rfl rfl ?_ ?_ ?_
      rotate_right
      intro v1 w5 hown1 hb1 hg1 ho1
      have HQ5 := Lib.hid (HQ3.out.app (es' := es ++ [er]) hown1 hb1 hg1 ho1 (Nat.le_succ _) ?hlen ?hus)
      have HX5 := Lib.hid (HX3.out.of_eq (hg1.block _ hx3 (fun c => Nat.lt_irrefl _ (HLT.out _ c.symm))))
      clear hown1 hb1 hg1 ho1)
    case refine_1 => simp [Value.oneCell']
    case refine_2 => omega
    case hlen => rw [List.length_append, List.length_singleton]
    case hus => rw [ints_app]; rfl
    clear HQ3 HX3 hx3 hsz3 HLT
    by_cases hz : er = 0
    case neg =>
      have hzb : (er == 0) = false := by simpa using hz
      have HZ := Lib.hid hz
      clear hz
      go_wp2_with fail
      go_roundg (l.length - (i + 1))
      case measure => omega
      case rel =>
        refine ⟨i + 1, .slice A0 k.loops.length n0, .slice A1 hs.length n1, .slice A2 k.loose.length n2, hs, by omega, rfl, by go_num, ?_⟩
        rw [HE.out.1, HE.out.2, show doK N k x = k by unfold doK; rw [if_neg (by rw [HER.out]; exact HZ.out)]]
        exact HQ5.out
    subst hz
    have q0 := HQ5.out.q.cell (k := 0) rfl
    have q1 := HQ5.out.q.cell (k := 1) rfl
    have q2 := HQ5.out.q.cell (k := 2) rfl
    have q3 := HQ5.out.q.cell (k := 3) rfl
    have q4 := HQ5.out.q.cell (k := 4) rfl
    have q5 := HQ5.out.q.cell (k := 5) rfl
    have x0 := HX5.out.cell (k := 0) rfl
    have x1 := HX5.out.cell (k := 1) rfl
    have x2 := HX5.out.cell (k := 2) rfl
    have x3 := HX5.out.cell (k := 3) rfl
    have x4 := HX5.out.cell (k := 4) rfl
    go_wp2_with fail
    refine (refDo_any HQ5.out.st (fun b hb => hb.2.1) hN HKI.out x HER.out).mono ?_
    rintro e w6 ⟨vl', vh', vo', hs', rfl, hst, hb6⟩
    unfold sval
    have HQ6 := Lib.hid (HQ5.out.store hb6 hst)
    obtain ⟨B0, m0, rfl, _, _⟩ := hst.loops.sl
    obtain ⟨B1, m1, rfl, _, _⟩ := hst.held.sl
    obtain ⟨B2, m2, rfl, _, _⟩ := hst.loose.sl
    have hqn := (HQ5.out.next hb6).q
    clear q0 q1 q2 q3 q4 q5 x0 x1 x2 x3 x4 hb6 hst
    have q0 := hqn.cell (k := 0) rfl
    have q1 := hqn.cell (k := 1) rfl
    have q2 := hqn.cell (k := 2) rfl
    have q3 := hqn.cell (k := 3) rfl
    have q4 := hqn.cell (k := 4) rfl
    have q5 := hqn.cell (k := 5) rfl
    have f0 := hqn.free 0
    have f1 := hqn.free 1
    have f2 := hqn.free 2
    have f3 := hqn.free 3
    have f4 := hqn.free 4
    have f5 := hqn.free 5
    clear hqn
    go_wp2_with fail
    go_roundg (l.length - (i + 1))
    case measure => omega
    case rel =>
      refine ⟨i + 1, .slice B0 (stepK k x).loops.length m0, .slice B1 hs'.length m1, .slice B2 (stepK k x).loose.length m2, hs', by omega, rfl, by go_num, ?_⟩
      rw [HE.out.1, HE.out.2, show doK N k x = stepK k x by unfold doK; rw [if_pos HER.out]]
      exact HQ6.out

set_option maxRecDepth 100000 in
set_option maxHeartbeats 2000000 in
theorem refKnit_bad {S : Nat → Prop} {v : Value} {l : List Sti} (n : Int) (hn : n < 1 ∨ 128 < n) (w : World) (hv : Stitches w S v l) :
    Calls Try.prog 15 #[.int .i64 n, v] w fun e w' => e = .returned (.tuple #[nils, .agg #[nils, nils, nils, nils, .int .i64 0], .int .i64 3]) ∧ Below w.heap.size w w' := by
  have HA := Lib.hid (Arr.new w #[nils, nils, nils, nils, .int .i64 0] 27)
  have HB : Hid (Below w.heap.size w (w.alloc (.cells #[nils, nils, nils, nils, .int .i64 0] 27))) := (Below.refl _ _).alloc (Nat.le_refl _) _
  obtain ⟨A, c, rfl, h1, h2, hr⟩ := hv
  clear hr
  rcases hn with hn | hn
  · go_enter Try.func15, Try.ntmps15
    go_wp2_with fail
    exact bodyPost_ret (v := .tuple #[nils, .agg #[nils, nils, nils, nils, .int .i64 0], .int .i64 3]) (by simp [results, Try.results15, go_sem]) rfl ⟨rfl, HB.out⟩
  · have hn' : ¬ n < 1 := by omega
    go_enter Try.func15, Try.ntmps15
    go_wp2_with fail
    exact bodyPost_ret (v := .tuple #[nils, .agg #[nils, nils, nils, nils, .int .i64 0], .int .i64 3]) (by simp [results, Try.results15, go_sem]) rfl ⟨rfl, HB.out⟩
end Go.Proofs.Ytaacfjeddoekfaa
/- Chapter 11: the reference's Run. -/
namespace Go.Proofs.Ytaacfjeddoekfaa
open Go.RowKit
set_option linter.unusedVariables false
set_option linter.unusedSimpArgs false

theorem errs_get {N : Nat} {l : List Sti} {i : Nat} (h : i < l.length) (h2 : i < (errsK N zeroK l).length) : (errsK N zeroK l)[i] = wrongK N (afterK N (l.take i)) l[i] := by
  have := errsK_get (N := N) h
  rw [List.getElem?_eq_getElem h2] at this
  exact Option.some.inj this
/-- seven cells are written, of two boxes -/
def set7 (w : World) (p : Nat) (a b c d e f g : Value) : World :=
  ((((((w.setCell ⟨p, 0, none⟩ a).setCell ⟨p, 1, none⟩ b).setCell ⟨p, 2, none⟩ c).setCell ⟨p, 3, none⟩ d).setCell ⟨p, 4, none⟩ e).setCell ⟨p + 1, 0, none⟩ f).setCell ⟨p + 1, 1, none⟩ g
theorem set7_far (w : World) (p : Nat) (a b c d e f g : Value) (x : Nat) (h : x ≠ p) (h' : x ≠ p + 1) : (set7 w p a b c d e f g).heap[x]? = w.heap[x]? :=
  (((((((Below.heap_setCell _ _ _ _ h').trans (Below.heap_setCell _ _ _ _ h')).trans (Below.heap_setCell _ _ _ _ h)).trans (Below.heap_setCell _ _ _ _ h)).trans (Below.heap_setCell _ _ _ _ h)).trans (Below.heap_setCell _ _ _ _ h)).trans (Below.heap_setCell _ _ _ _ h))
theorem set7_size (w : World) (p : Nat) (a b c d e f g : Value) : (set7 w p a b c d e f g).heap.size = w.heap.size := by simp [set7, World.setCell]
theorem set7_below {w0 w : World} {B p : Nat} (hb : Below B w0 w) (hp : B ≤ p) (a b c d e f g : Value) : Below B w0 (set7 w p a b c d e f g) := by
  have hp' : B ≤ p + 1 := by omega
  exact ((((((hb.setCell hp _).setCell hp _).setCell hp _).setCell hp _).setCell hp _).setCell hp' _).setCell hp' _
theorem set7_arr {w : World} {p : Nat} {x0 x1 x2 x3 x4 y0 y1 : Value} (h : Arr w p 27 [x0, x1, x2, x3, x4]) (k : Arr w (p + 1) 30 [y0, y1]) (a b c d e f g : Value) :
    Arr (set7 w p a b c d e f g) p 27 [a, b, c, d, e] ∧ Arr (set7 w p a b c d e f g) (p + 1) 30 [f, g] := by
  have n1 : p ≠ p + 1 := by omega
  have n2 : p + 1 ≠ p := by omega
  exact ⟨((((((h.set 0 a).set 1 b).set 2 c).set 3 d).set 4 e).far (p := ⟨p + 1, 0, none⟩) n1 f).far (p := ⟨p + 1, 1, none⟩) n1 g,
    ((((((k.far (p := ⟨p, 0, none⟩) n2 a).far (p := ⟨p, 1, none⟩) n2 b).far (p := ⟨p, 2, none⟩) n2 c).far (p := ⟨p, 3, none⟩) n2 d).far (p := ⟨p, 4, none⟩) n2 e).set 0 f).set 1 g⟩

set_option maxRecDepth 100000 in
set_option maxHeartbeats 4000000 in
theorem refRun_ok {v : Value} {l : List Sti} (N : Nat) (hN1 : 1 ≤ N) (hN : N ≤ 128) (w : World) (hv : Stitches w (fun b => b < w.heap.size) v l) (hl : l.length ≤ 4000000000000) :
    Calls Try.prog 12 #[.int .i64 (N : Int), v] w fun e w' => ∃ kv, e = .returned (.tuple #[kv, .agg #[.int .i64 (runF N l).1, .int .i64 (runF N l).2]]) ∧ KnR w' (fun b => w.heap.size ≤ b ∧ b < w'.heap.size) kv (runK N l) ∧ Below w.heap.size w w' := by
  have HV := Lib.hid hv
  have HA := Lib.hid ((Arr.new w #[nils, nils, nils, nils, .int .i64 0] 27).alloc (.cells #[.int .i64 0, .int .i64 0] 30))
  have HA2 := Lib.hid (arr_new2 w (.cells #[nils, nils, nils, nils, .int .i64 0] 27) #[.int .i64 0, .int .i64 0] 30)
  have HB : Hid (Below w.heap.size w ((w.alloc (.cells #[nils, nils, nils, nils, .int .i64 0] 27)).alloc (.cells #[.int .i64 0, .int .i64 0] 30))) := ((Below.refl _ _).alloc (Nat.le_refl _) _).alloc (by simp) _
  have hsA : ((w.alloc (.cells #[nils, nils, nils, nils, .int .i64 0] 27)).alloc (.cells #[.int .i64 0, .int .i64 0] 30)).heap.size = w.heap.size + 2 := by simp
  obtain ⟨A, c, rfl, h1, h2, hr⟩ := hv
  clear hr
  unfold maxLen at h2
  go_enter Try.func12, Try.ntmps12
  go_wp2_with fail
  generalize (w.alloc (.cells #[nils, nils, nils, nils, .int .i64 0] 27)).alloc (.cells #[.int .i64 0, .int .i64 0] 30) = wA at *
  have HSA := Lib.hid hsA
  clear hsA
  refine (refKnit_own N hN1 hN _ ((HV.out.same fun b hb => HB.out.block b hb).mono fun b hb => by rw [HSA.out]; omega) hl).mono ?_
  rintro e w1 ⟨u, kv, rfl, hu, hk, hb1⟩
  have HU := Lib.hid hu
  have HK := Lib.hid hk
  have HEL : Hid ((errsK N zeroK l).length = l.length) := errsK_len N l zeroK
  obtain ⟨Au, cu, rfl, g1, g2, ra⟩ := hu
  rw [HEL.out] at HU g1 ⊢
  clear ra
  unfold maxLen at g2
  generalize hkn : told N (afterK N l) = kn at *
  have HKN := Lib.hid hkn
  clear hkn
  obtain ⟨vl, vf, vb, vo, rfl, hl', hf', hb', ho'⟩ := hk
  obtain ⟨Aq, cq, tq, rfl, _⟩ := hl'
  obtain ⟨Af, cf, tf, rfl, _⟩ := hf'
  obtain ⟨Ab, cb, tb, rfl, _⟩ := hb'
  obtain ⟨Ap, cp, rfl, _⟩ := ho'
  have HB1 : Hid (Below w.heap.size w (w1.alloc (.cells #[.slice Aq kn.loops.length cq, .slice Af kn.front.length cf, .slice Ab kn.back.length cb, .slice Ap kn.loose.length cp, .int .i64 kn.rack] 27))) := (HB.out.trans (hb1.mono (by rw [HSA.out]; omega))).alloc (by have := hb1.size; rw [HSA.out] at this; omega) _
  have HX := Lib.hid (Arr.new w1 #[.slice Aq kn.loops.length cq, .slice Af kn.front.length cf, .slice Ab kn.back.length cb, .slice Ap kn.loose.length cp, .int .i64 kn.rack] 27)
  have HS1 : Hid (Below w1.heap.size w1 (w1.alloc (.cells #[.slice Aq kn.loops.length cq, .slice Af kn.front.length cf, .slice Ab kn.back.length cb, .slice Ap kn.loose.length cp, .int .i64 kn.rack] 27))) := (Below.refl _ _).alloc (Nat.le_refl _) _
  have hsz1 := hb1.size
  rw [HSA.out] at hsz1
  have HA' := Lib.hid ((HA.out.of_eq (hb1.block _ (by rw [HSA.out]; omega))).of_eq (HS1.out.block _ (by omega)))
  have HA2' := Lib.hid ((HA2.out.of_eq (hb1.block _ (by rw [HSA.out]; omega))).of_eq (HS1.out.block _ (by omega)))
  clear hb1 HA HA2
  go_upto_region 2 with fail
  have hs2 : (w1.alloc (.cells #[.slice Aq kn.loops.length cq, .slice Af kn.front.length cf, .slice Ab kn.back.length cb, .slice Ap kn.loose.length cp, .int .i64 kn.rack] 27)).heap.size = w1.heap.size + 1 := by simp
  generalize w1.alloc (.cells #[.slice Aq kn.loops.length cq, .slice Af kn.front.length cf, .slice Ab kn.back.length cb, .slice Ap kn.loose.length cp, .int .i64 kn.rack] 27) = w2 at *
  have HSZ2 := Lib.hid hs2
  clear hs2
  have hfar : w.heap.size + 1 < w2.heap.size := by rw [HSZ2.out]; omega
  go_wp2_with fail
  go_loopg [25] l.length (fun gg ctr wr => ∃ i : Nat, i ≤ l.length ∧ gg = l.length - i ∧ ctr = .int .i64 i ∧ wr = w2 ∧ Fine N l i)
  case atStart => exact ⟨0, by omega, rfl, rfl, rfl, fun j hj h => by omega⟩
  case round =>
    obtain ⟨i, hi, rfl, rfl, rfl, hfine⟩ := hrel
    have HFI := Lib.hid hfine
    clear hfine
    by_cases hlt : i < l.length
    case neg =>
      obtain rfl : i = l.length := by omega
      have HRES : Hid (runF N l = (0, 0) ∧ runK N l = told N (afterK N l)) := by
        have := HFI.out.none
        show _ ∧ _
        unfold runF runK
        rw [this]
        exact ⟨rfl, rfl⟩
      have r0 := HA'.out.cell (k := 0) rfl
      have r1 := HA'.out.cell (k := 1) rfl
      have r2 := HA'.out.cell (k := 2) rfl
      have r3 := HA'.out.cell (k := 3) rfl
      have r4 := HA'.out.cell (k := 4) rfl
      have f0 := HA'.out.free 0
      have f1 := HA'.out.free 1
      have f2 := HA'.out.free 2
      have f3 := HA'.out.free 3
      have f4 := HA'.out.free 4
      have s0 := HA2'.out.cell (k := 0) rfl
      have s1 := HA2'.out.cell (k := 1) rfl
      have g0 := HA2'.out.free 0
      have g1 := HA2'.out.free 1
      have x0 := HX.out.cell (k := 0) rfl
      have x1 := HX.out.cell (k := 1) rfl
      have x2 := HX.out.cell (k := 2) rfl
      have x3 := HX.out.cell (k := 3) rfl
      have x4 := HX.out.cell (k := 4) rfl
      obtain ⟨ha, hb⟩ := set7_arr HA'.out HA2'.out (.slice Aq kn.loops.length cq) (.slice Af kn.front.length cf) (.slice Ab kn.back.length cb) (.slice Ap kn.loose.length cp) (.int .i64 kn.rack) (.int .i64 0) (.int .i64 0)
      have q0 := ha.cell (k := 0) rfl
      have q1 := ha.cell (k := 1) rfl
      have q2 := ha.cell (k := 2) rfl
      have q3 := ha.cell (k := 3) rfl
      have q4 := ha.cell (k := 4) rfl
      have q5 := hb.cell (k := 0) rfl
      have q6 := hb.cell (k := 1) rfl
      unfold set7 at q0 q1 q2 q3 q4 q5 q6
      clear ha hb
      go_wp2_with fail
      refine bodyPost_ret (v := .tuple #[.agg #[.slice Aq kn.loops.length cq, .slice Af kn.front.length cf, .slice Ab kn.back.length cb, .slice Ap kn.loose.length cp, .int .i64 kn.rack], .agg #[.int .i64 0, .int .i64 0]]) (by simp [results, Try.results12, go_sem, q0, q1, q2, q3, q4, q5, q6]) rfl ⟨_, by rw [HRES.out.1], ?_, set7_below HB1.out (Nat.le_refl _) _ _ _ _ _ _ _⟩
      rw [HRES.out.2, HKN.out]
      refine ((HK.out.same fun b hb => HS1.out.block b hb.2).same fun b hb => set7_far _ _ _ _ _ _ _ _ _ b (by have := hb.1; rw [HSA.out] at this; omega) (by have := hb.1; rw [HSA.out] at this; omega)).mono fun b hb => ⟨by have := hb.1; rw [HSA.out] at this; omega, ?_⟩
      show b < (set7 _ _ _ _ _ _ _ _ _).heap.size
      rw [set7_size, HSZ2.out]
      have := hb.2
      omega
    obtain ⟨bk, o, e, hbk, xc⟩ : ∃ b o, Au = some ⟨b, o, none⟩ ∧ (wA.heap.size ≤ b ∧ b < w1.heap.size) ∧ wr.cell? ⟨b, o + i, none⟩ = some (.int .i64 ((errsK N zeroK l)[i]'(by rw [HEL.out]; exact hlt))) := by
      obtain ⟨A', c', e, _, _, hr⟩ := HU.out
      rw [← HEL.out] at e
      simp only [Value.slice.injEq, true_and] at e
      obtain ⟨rfl, rfl⟩ := e
      obtain ⟨bk, o, e, hbk, xc⟩ := ints_cell hr (k := i) (by rw [HEL.out]; exact hlt)
      exact ⟨bk, o, e, hbk, (World.cell?_of_block (a := ⟨bk, o + i, none⟩) (HS1.out.block bk hbk.2)).trans xc⟩
    cases e
    rw [errs_get hlt] at xc
    have HBAD : Hid (wrongK N (afterK N (l.take i)) l[i] ≠ 0 → runF N l = (wrongK N (afterK N (l.take i)) l[i], (i : Int)) ∧ runK N l = noKn) := fun hn => by
      have := HFI.out.bad hlt hn
      unfold runF runK
      rw [this]
      exact ⟨rfl, rfl⟩
    have HGOOD : Hid (wrongK N (afterK N (l.take i)) l[i] = 0 → Fine N l (i + 1)) := fun hn => HFI.out.next hlt hn
    generalize wrongK N (afterK N (l.take i)) l[i] = er at *
    by_cases hz : er = 0
    · subst hz
      have HG := Lib.hid (HGOOD.out rfl)
      go_wp2_with fail
      go_roundg (l.length - (i + 1))
      case measure => omega
      case rel => exact ⟨i + 1, by omega, rfl, by go_num, rfl, HG.out⟩
    · have HR := Lib.hid (HBAD.out hz)
      have hzb : (er != 0) = true := by simpa using hz
      clear hz HBAD HGOOD
      have r0 := HA'.out.cell (k := 0) rfl
      have r1 := HA'.out.cell (k := 1) rfl
      have r2 := HA'.out.cell (k := 2) rfl
      have r3 := HA'.out.cell (k := 3) rfl
      have r4 := HA'.out.cell (k := 4) rfl
      have f0 := HA'.out.free 0
      have f1 := HA'.out.free 1
      have f2 := HA'.out.free 2
      have f3 := HA'.out.free 3
      have f4 := HA'.out.free 4
      have s0 := HA2'.out.cell (k := 0) rfl
      have s1 := HA2'.out.cell (k := 1) rfl
      have g0 := HA2'.out.free 0
      have g1 := HA2'.out.free 1
      obtain ⟨ha, hb⟩ := set7_arr HA'.out HA2'.out nils nils nils nils (.int .i64 0) (.int .i64 er) (.int .i64 (i : Int))
      have q0 := ha.cell (k := 0) rfl
      have q1 := ha.cell (k := 1) rfl
      have q2 := ha.cell (k := 2) rfl
      have q3 := ha.cell (k := 3) rfl
      have q4 := ha.cell (k := 4) rfl
      have q5 := hb.cell (k := 0) rfl
      have q6 := hb.cell (k := 1) rfl
      unfold set7 at q0 q1 q2 q3 q4 q5 q6
      clear ha hb
      go_wp2_with fail
      refine bodyPost_ret (v := .tuple #[.agg #[nils, nils, nils, nils, .int .i64 0], .agg #[.int .i64 er, .int .i64 (i : Int)]]) (by simp [results, Try.results12, go_sem, q0, q1, q2, q3, q4, q5, q6]) rfl ⟨_, by rw [HR.out.1], ?_, set7_below HB1.out (Nat.le_refl _) _ _ _ _ _ _ _⟩
      rw [HR.out.2]
      exact noKn_R _ _

set_option maxRecDepth 100000 in
set_option maxHeartbeats 2000000 in
theorem refRun_bad {v : Value} {l : List Sti} (n : Int) (hn : n < 1 ∨ 128 < n) (w : World) (hv : Stitches w (fun b => b < w.heap.size) v l) :
    Calls Try.prog 12 #[.int .i64 n, v] w fun e w' => e = .returned (.tuple #[.agg #[nils, nils, nils, nils, .int .i64 0], .agg #[.int .i64 3, .int .i64 0]]) ∧ Below w.heap.size w w' := by
  have HB : Hid (Below w.heap.size w ((w.alloc (.cells #[nils, nils, nils, nils, .int .i64 0] 27)).alloc (.cells #[.int .i64 0, .int .i64 0] 30))) := ((Below.refl _ _).alloc (Nat.le_refl _) _).alloc (by simp) _
  have HA := Lib.hid ((Arr.new w #[nils, nils, nils, nils, .int .i64 0] 27).alloc (.cells #[.int .i64 0, .int .i64 0] 30))
  have HA2 := Lib.hid (arr_new2 w (.cells #[nils, nils, nils, nils, .int .i64 0] 27) #[.int .i64 0, .int .i64 0] 30)
  have hsA : ((w.alloc (.cells #[nils, nils, nils, nils, .int .i64 0] 27)).alloc (.cells #[.int .i64 0, .int .i64 0] 30)).heap.size = w.heap.size + 2 := by simp
  have HVV := Lib.hid (hv.same fun b hb => HB.out.block b hb)
  have HN := Lib.hid hn
  obtain ⟨A, c, rfl, h1, h2, hr⟩ := hv
  clear hr hn
  go_enter Try.func12, Try.ntmps12
  go_wp2_with fail
  generalize (w.alloc (.cells #[nils, nils, nils, nils, .int .i64 0] 27)).alloc (.cells #[.int .i64 0, .int .i64 0] 30) = wA at *
  have HSA := Lib.hid hsA
  clear hsA
  refine (refKnit_bad n HN.out _ HVV.out).mono ?_
  rintro e w1 ⟨rfl, hb1⟩
  have hsz1 := hb1.size
  rw [HSA.out] at hsz1
  have HB1 : Hid (Below w.heap.size w (w1.alloc (.cells #[nils, nils, nils, nils, .int .i64 0] 27))) := (HB.out.trans (hb1.mono (by rw [HSA.out]; omega))).alloc (by omega) _
  have HA' := Lib.hid ((HA.out.of_eq (hb1.block _ (by rw [HSA.out]; omega))).alloc (.cells #[nils, nils, nils, nils, .int .i64 0] 27))
  have HA2' := Lib.hid ((HA2.out.of_eq (hb1.block _ (by rw [HSA.out]; omega))).alloc (.cells #[nils, nils, nils, nils, .int .i64 0] 27))
  clear hb1 HA HA2 HB HVV
  go_upto_region 2 with fail
  generalize w1.alloc (.cells #[nils, nils, nils, nils, .int .i64 0] 27) = w2 at *
  have r0 := HA'.out.cell (k := 0) rfl
  have r1 := HA'.out.cell (k := 1) rfl
  have r2 := HA'.out.cell (k := 2) rfl
  have r3 := HA'.out.cell (k := 3) rfl
  have r4 := HA'.out.cell (k := 4) rfl
  have f0 := HA'.out.free 0
  have f1 := HA'.out.free 1
  have f2 := HA'.out.free 2
  have f3 := HA'.out.free 3
  have f4 := HA'.out.free 4
  have s0 := HA2'.out.cell (k := 0) rfl
  have s1 := HA2'.out.cell (k := 1) rfl
  have g0 := HA2'.out.free 0
  have g1 := HA2'.out.free 1
  obtain ⟨ha, hb⟩ := set7_arr HA'.out HA2'.out nils nils nils nils (.int .i64 0) (.int .i64 3) (.int .i64 0)
  have q0 := ha.cell (k := 0) rfl
  have q1 := ha.cell (k := 1) rfl
  have q2 := ha.cell (k := 2) rfl
  have q3 := ha.cell (k := 3) rfl
  have q4 := ha.cell (k := 4) rfl
  have q5 := hb.cell (k := 0) rfl
  have q6 := hb.cell (k := 1) rfl
  unfold set7 at q0 q1 q2 q3 q4 q5 q6
  clear ha hb
  go_wp2_with fail
  exact bodyPost_ret (v := .tuple #[.agg #[nils, nils, nils, nils, .int .i64 0], .agg #[.int .i64 3, .int .i64 0]]) (by simp [results, Try.results12, go_sem, q0, q1, q2, q3, q4, q5, q6]) rfl ⟨rfl, set7_below HB1.out (Nat.le_refl _) _ _ _ _ _ _ _⟩
end Go.Proofs.Ytaacfjeddoekfaa
