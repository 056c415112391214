import Derived.Test.YtaacfjeddoekfaaTl2
import Derived.Test.YtaacfjeddoekfaaTlKnitWalk6
import Derived.Deep.CutRange
import Derived.Test.YtaacfjeddoekfaaTl3
/- Chapter 11: a machine told. -/
namespace Go.Proofs.Ytaacfjeddoekfaa
open Go.RowKit
set_option linter.unusedVariables false
set_option linter.unusedSimpArgs false

set_option maxRecDepth 100000 in
set_option maxHeartbeats 4000000 in
theorem State_any {w0 w : World} {B p N : Nat} {k : KS} (h : MW w0 w B p N k) (hN : N ≤ 128) (hi : Kinv N k) :
    Calls Try.prog 27 #[ptr p 0] w fun e w' => ∃ v, e = .returned v ∧ KnR w' (fun b => w.heap.size ≤ b ∧ b < w'.heap.size) v (told N k) ∧ Below w.heap.size w w' := by
  obtain ⟨m, hm, ht⟩ := h
  have HM := Lib.hid hm
  have HT := Lib.hid ht
  have c0 := hm.cell (j := 0) rfl
  have c1 := hm.cell (j := 1) rfl
  have c2 := hm.cell (j := 2) rfl
  have c3 := hm.cell (j := 3) rfl
  have c4 := hm.cell (j := 4) rfl
  have hp := hm.arr.lt
  have hL0 := hi.loops
  have hO0 := hi.loose
  have hd := hi.d
  have hi8 : ∀ i, i < k.loops.length → (k.loops.getD i noLop).thr.length ≤ 8 := fun i h => hi.thr _ (by simp [h])
  have h8 := hi.on
  clear hm ht hi
  obtain ⟨A3, cc3, hv3, _, _⟩ := own_form HM.out.oo
  have HOO : Hid (∀ w', Below w.heap.size w w' → w'.ownsRow B 3 1 (.slice A3 k.loose.length cc3) k.loose.length (ints k.loose)) := fun w' hb => by rw [← hv3]; exact (HM.out.keep hb).oo
  rw [hv3] at c3
  clear hv3
  have HBa : Hid (Below w.heap.size w (w.alloc (.cells #[nils, nils, nils, nils, .int .i64 0] 27)).drew) := below_dN (n := 1) ((Below.refl _ _).alloc (Nat.le_refl _) _)
  have HBb : Hid (Below w.heap.size w ((w.alloc (.cells #[nils, nils, nils, nils, .int .i64 0] 27)).drew.alloc (.cells #[nils, nils, nils, nils, .int .i64 0] 27))) := HBa.out.alloc (by have := HBa.out.size; exact this) _
  have hpn : ¬ w.heap.size + 1 = p := by omega
  go_enter Try.func27, Try.ntmps27
  go_upto_region 1 with fail
  go_cut [3] from 7 to 16 (fun kp wx => ∃ g vo, kp = ptr g 0 ∧ Below (w.heap.size + 1) (w.alloc (.cells #[nils, nils, nils, nils, .int .i64 0] 27)) wx ∧ Arr wx g 27 [nils, nils, nils, vo, .int .i64 k.rack] ∧ w.heap.size + 1 ≤ g ∧
    Ints wx (fun b => w.heap.size + 1 ≤ b ∧ b < wx.heap.size ∧ b ≠ g) vo k.loose)
  case first =>
    go_region_held3 (fun w' => w'.cell? ⟨p, 4, none⟩ = some (.int .i64 k.rack) ∧ w'.cell? ⟨p, 3, none⟩ = some (.slice A3 k.loose.length cc3)) (go_keep)
      (first
        | (go_at_call 50
           refine (clone_any _ (HOO.out _ (by first | exact HBa.out | exact HBb.out)) (by omega)).mono ?_
           rintro e w5 ⟨u, rfl, hu, hb⟩
           have HU := Lib.hid hu
           have HB5 := Lib.hid hb
           have hpq : ¬ w5.heap.size = p := by have := hb.size; simp at this; omega
           have q4 : w5.cell? ⟨p, 4, none⟩ = some (.int .i64 k.rack) := (World.cell?_of_block (a := ⟨p, 4, none⟩) (hb.block p (by simp; omega))).trans (by simp [*])
           have q3 : w5.cell? ⟨p, 3, none⟩ = some (.slice A3 k.loose.length cc3) := (World.cell?_of_block (a := ⟨p, 3, none⟩) (hb.block p (by simp; omega))).trans (by simp [*])
           have HBw : Hid (Below (w.heap.size + 1) (w.alloc (.cells #[nils, nils, nils, nils, .int .i64 0] 27)) w5) := by
             first
               | exact (below_dN (n := 1) (Below.refl _ _)).trans (hb.mono (by simp))
               | exact ((below_dN (n := 1) (Below.refl _ _)).alloc (by simp) _).trans (hb.mono (by simp))
           have HUw : Hid (Ints w5 (fun b => w.heap.size + 1 ≤ b ∧ b < w5.heap.size) u k.loose) := hu.mono fun b hb' => ⟨by have := hb'.1; simp at this; omega, hb'.2⟩
           try (have HUa : Hid (Ints w5 (fun b => w.heap.size + 1 ≤ b ∧ b < w5.heap.size ∧ b ≠ w.heap.size + 1) u k.loose) := hu.mono fun b hb' => ⟨by have := hb'.1; simp at this; omega, hb'.2, by have := hb'.1; simp at this; omega⟩)
           obtain ⟨Au, cu, rfl, _, _, _⟩ := hu
           clear HU HB5
           try (have hz : Arr w5 (w.heap.size + 1) 27 [nils, nils, nils, nils, .int .i64 0] := (arr_new2 w (.cells #[nils, nils, nils, nils, .int .i64 0] 27) #[nils, nils, nils, nils, .int .i64 0] 27).of_eq (hb.block _ (by simp))
                have HZ := Lib.hid hz
                have r0 := hz.cell (k := 0) rfl
                have r1 := hz.cell (k := 1) rfl
                have r2 := hz.cell (k := 2) rfl
                have r3 := hz.cell (k := 3) rfl
                have r4 := hz.cell (k := 4) rfl
                have f0 := hz.free 0
                have f1 := hz.free 1
                have f2 := hz.free 2
                have f3 := hz.free 3
                have f4 := hz.free 4
                clear hz)
           clear hb))
    all_goals
      go_wp2_with fail
      go_meet
    · refine ⟨w5.heap.size, _, rfl, HBw.out.alloc (by have := HBw.out.size; simpa using this) _, Arr.new w5 _ 27, by have := HBw.out.size; simpa using this, ?_⟩
      exact (HUw.out.same fun b hb' => Below.heap_alloc w5 _ b hb'.2).mono fun b hb' => ⟨hb'.1, by simp; omega, by omega⟩
    · have hsz : ∀ (q : Addr) (x : Value) (w : World), (w.setCell q x).heap.size = w.heap.size := fun _ _ _ => by simp [World.setCell]
      have hfar : ∀ (b : Nat) (o : Nat) (x : Value) (w : World), b ≠ w.heap.size + 1 → True := fun _ _ _ _ _ => trivial
      refine ⟨w.heap.size + 1, _, rfl, ((((HBw.out.setCell (Nat.le_refl _) _).setCell (Nat.le_refl _) _).setCell (Nat.le_refl _) _).setCell (Nat.le_refl _) _).setCell (Nat.le_refl _) _, ((((HZ.out.set 0 _).set 1 _).set 2 _).set 3 _).set 4 _, Nat.le_refl _, ?_⟩
      refine (HUa.out.same fun b hb' => ?_).mono fun b hb' => ⟨hb'.1, by rw [hsz, hsz, hsz, hsz, hsz]; exact hb'.2.1, hb'.2.2⟩
      exact ((((Below.heap_setCell _ _ _ _ hb'.2.2).trans (Below.heap_setCell _ _ _ _ hb'.2.2)).trans (Below.heap_setCell _ _ _ _ hb'.2.2)).trans (Below.heap_setCell _ _ _ _ hb'.2.2)).trans (Below.heap_setCell _ _ _ _ hb'.2.2)
  case rest =>
    obtain ⟨g, vo, rfl, hb, ha, hg, hvo⟩ := hcut
    have HS := Lib.hid (SB.start (w0 := w.alloc (.cells #[nils, nils, nils, nils, .int .i64 0] 27)) [0, 1, 2] (u0 := nils) (by simpa using hb) ha (by simpa using hg) (fun _ => rfl) (xs := k.loose) (by simpa using hvo))
    have HBW : Hid (Below w.heap.size w wc) := ((Below.refl _ _).alloc (Nat.le_refl _) (.cells #[nils, nils, nils, nils, .int .i64 0] 27)).trans (hb.mono (by omega))
    have HRV : Hid (Arr wc w.heap.size 27 [nils, nils, nils, nils, .int .i64 0]) := (Arr.new w #[nils, nils, nils, nils, .int .i64 0] 27).of_eq (hb.block _ (by omega))
    clear hb ha hg hvo HBa HBb HOO
    have d0 : wc.cell? ⟨p, 0, none⟩ = some m.vl := (World.cell?_of_block (a := ⟨p, 0, none⟩) (HBW.out.block p hp)).trans c0
    obtain ⟨Al, lc, hvl, hl1, hl2⟩ := own_form HM.out.ol
    have HVL := Lib.hid hvl
    rw [hvl] at d0
    clear hvl
    have HS1 : Hid (S1 (w.alloc (.cells #[nils, nils, nils, nils, .int .i64 0] 27)) wc g k 0) := ⟨_, _, _, _, _, _, fun _ => nils, HS.out, rfl, rfl, fun j hj => by omega, by simp, rfl, rfl, rfl, rfl, rfl, rfl⟩
    have HWA : Hid (∀ w', Below (w.heap.size + 1) (w.alloc (.cells #[nils, nils, nils, nils, .int .i64 0] 27)) w' → Below w.heap.size w w') := fun w' hb => ((Below.refl _ _).alloc (Nat.le_refl _) (.cells #[nils, nils, nils, nils, .int .i64 0] 27)).trans (hb.mono (by omega))
    have HRA : Hid (∀ w', Below (w.heap.size + 1) (w.alloc (.cells #[nils, nils, nils, nils, .int .i64 0] 27)) w' → Arr w' w.heap.size 27 [nils, nils, nils, nils, .int .i64 0]) := fun w' hb => (Arr.new w #[nils, nils, nils, nils, .int .i64 0] 27).of_eq (hb.block _ (by omega))
    have hsA : (w.alloc (.cells #[nils, nils, nils, nils, .int .i64 0] 27)).heap.size = w.heap.size + 1 := by simp
    generalize w.alloc (.cells #[nils, nils, nils, nils, .int .i64 0] 27) = wA at *
    have HSA := Lib.hid hsA
    clear hsA HS HRV HBW
    go_wp2_with fail
    go_loopg [22] k.loops.length (fun gg ctr wr => ∃ i : Nat, i ≤ k.loops.length ∧ gg = k.loops.length - i ∧ ctr = .int .i64 i ∧ S1 wA wr g k i)
    case atStart => exact ⟨0, by omega, rfl, rfl, HS1.out⟩
    case round =>
      clear HS1 d0
      obtain ⟨i, hi, rfl, rfl, hs1⟩ := hrel
      have HBW : Hid (Below w.heap.size w wr) := HWA.out _ (by rw [← HSA.out]; exact hs1.below)
      by_cases hlt : i < k.loops.length
      case pos =>
        obtain ⟨own, v, n, cs, vo', cl, tl, hsb, e0, e1, hm, hvo, hrest⟩ := hs1
        obtain ⟨A0, ca0, hv0, hc1, hc2⟩ := own_form (hsb.row 0 (by simp)).1
        have y0 := hsb.cell (j := 0) rfl
        rw [hv0, e0] at y0
        rw [e0] at hc1
        unfold maxLen at hc2
        have hgw := hsb.arr.lt
        have fz := hsb.arr.free 0
        have hrow : w.ownsRow B 41 2 (.slice Al k.loops.length lc) k.loops.length (lrow k.loops m.tv) := by rw [← HVL.out]; exact HM.out.ol
        obtain ⟨bl, o1, e, hbl, x0, x1⟩ := loop_cells ((Row.of_own hrow).same fun b hb => HBW.out.block b hb.2) hlt
        cases e
        obtain ⟨ht1, ht2⟩ := HT.out i hlt
        obtain ⟨At, ct, hvt, hct1, hct2⟩ := own_form ht1
        have HVT := Lib.hid hvt
        rw [hvt] at x1
        have HSBX := Lib.hid hsb
        have HM2 := Lib.hid (And.intro e0 (And.intro e1 (And.intro hm (And.intro hvo hrest))))
        have HV0 := Lib.hid hv0
        have hthr := hi
        clear hvt hrow hm hvo hrest e1 e0 hsb hv0
        have HTH : Hid (∀ w', Below w.heap.size w w' → w'.ownsRow B 3 1 (.slice At (k.loops.getD i noLop).thr.length ct) (k.loops.getD i noLop).thr.length (ints (k.loops.getD i noLop).thr)) := fun w' hb => by rw [← HVT.out]; exact (HT.out.keep hb i hlt).1
        have hthl : (k.loops.getD i noLop).thr.length ≤ 8 := hi8 i hlt
        generalize hcar : (k.loops.getD i noLop).car = car at *
        generalize hthr : (k.loops.getD i noLop).thr = thr at *
        have HTR := Lib.hid hthr
        clear hthr ht1 ht2
        have HLT := Lib.hid hlt
        have HCAR : Hid (car = (k.loops.getD i noLop).car) := hcar.symm
        clear hcar
        have HBX : Hid (Arr (wr.alloc (.cells #[.int .i64 car, .slice At thr.length ct] 41)).drew wr.heap.size 41 [.int .i64 car, .slice At thr.length ct]) := Arr.new wr #[.int .i64 car, .slice At thr.length ct] 41
        have HS2 : Hid (SB wA (wr.alloc (.cells #[.int .i64 car, .slice At thr.length ct] 41)).drew g own [0, 1, 2] v n cs vo' k.rack cl) := (HSBX.out.keep ((Below.refl _ _).alloc (Nat.le_refl _) _)).drew
        have HBW2 : Hid (Below w.heap.size w (wr.alloc (.cells #[.int .i64 car, .slice At thr.length ct] 41)).drew) := below_dN (n := 1) (HBW.out.alloc HBW.out.size _)
        have HLT0 : Hid (∀ x, (v 0).ownBlock = some x → x < wr.heap.size) := fun x hx => ((HSBX.out.row 0 (by simp)).1.lt x hx).2
        go_upto_region 5 with fail
        refine wp_region_plan [(true, 0), (true, 1), (true, 2), (true, 3), (true, 4), (true, 5), (false, 6), (true, 7), (false, 8), (false, 9), (true, 10), (false, 11)] 11
          (fun w' => w'.cell? ⟨g, 0, none⟩ = some (.slice A0 i ca0) ∧ w'.cell? ⟨wr.heap.size, 0, none⟩ = some (.int .i64 car) ∧ w'.cell? ⟨wr.heap.size, 1, none⟩ = some (.slice At thr.length ct))
          (by kernel_rfl) (by kernel_rfl) (by kernel_rfl) rfl ⟨by have := HS2.out.cell (j := 0) rfl; rw [HV0.out, HM2.out.1] at this; exact this, HBX.out.cell (k := 0) rfl, HBX.out.cell (k := 1) rfl⟩ ?_
        repeat (first
          | (refine plan_val _ ?_ (by rfl) (by rfl) ?_ ?_
             rotate_left 1
             · rintro w9 ⟨s0, s1, s2⟩; go_simp; first | done | with_reducible rfl
             (try simp only [Act.put, List.setIfInBounds_toArray, List.set_cons_zero, List.set_cons_succ])))
        refine plan_call _ ?_ ?_ (by rfl) (by rfl) ?_ ?_
        rotate_left 2
        · go_simp; (refine And.intro ?_ ?_ <;> rfl)
        refine (clone_any _ (HTH.out _ HBW2.out) (by omega)).mono ?_
        rintro e w3 ⟨u, rfl, hu, hb3⟩
        have HS3 := Lib.hid (HS2.out.more hb3 hu)
        have HX3 : Hid (Arr w3 wr.heap.size 41 [.int .i64 car, .slice At thr.length ct]) := HBX.out.of_eq (hb3.block _ HBX.out.lt)
        obtain ⟨Au, cu, rfl, _, _, _⟩ := hu
        clear hb3
        have y3 : w3.cell? ⟨g, 0, none⟩ = some (.slice A0 i ca0) := by have := HS3.out.cell (j := 0) rfl; rw [HV0.out, HM2.out.1] at this; exact this
        have b0 := HX3.out.cell (k := 0) rfl
        have b1 := HX3.out.cell (k := 1) rfl
        have hg3 := HS3.out.arr.lt
        have hx3 := HX3.out.lt
        refine ⟨_, rfl, .inr ⟨y3, b0, b1⟩, ?_⟩
        (try simp only [Act.put, List.setIfInBounds_toArray, List.set_cons_zero, List.set_cons_succ])
        repeat (first
          | (refine plan_val _ ?_ (by rfl) (by rfl) ?_ ?_
             rotate_left 1
             · rintro w9 ⟨s0, s1, s2⟩; go_simp; first | done | with_reducible rfl
             (try simp only [Act.put, List.setIfInBounds_toArray, List.set_cons_zero, List.set_cons_succ])))
        refine plan_do _ ?_ ?_ (by rfl) (by rfl) ?_ (.inr ?_) ?_
        rotate_left 2
        · go_simp; first | rfl | (refine And.intro ?_ ?_ <;> rfl)
        · exact ⟨by rw [World.cell?_alloc_lt _ _ _ (by exact hg3)]; exact y3, by rw [World.cell?_alloc_lt _ _ _ (by exact hx3)]; exact b0, by rw [World.cell?_alloc_lt _ _ _ (by exact hx3)]; exact b1⟩
        (try simp only [Act.put, List.setIfInBounds_toArray, List.set_cons_zero, List.set_cons_succ])
        have hon : (w3.alloc (.cells #[.int .i64 car, .slice Au thr.length cu] 41)).ownsRow wA.heap.size 41 2 (.slice A0 i ca0) i (cs 0) := by
          have := own_al (HS3.out.row 0 (by simp)).1 (.cells #[.int .i64 car, .slice Au thr.length cu] 41)
          rw [HV0.out, HM2.out.1] at this
          exact this
        have hby : (i + 1) * 32 ≤ 140737488355328 := by omega
        refine plan_app _ T23 (w0 := wA) [.int .i64 car, .slice Au thr.length cu] hon (HS3.out.below.alloc HS3.out.below.size _) (Nat.le_refl _) (by rfl) (by rfl) rfl rfl rfl rfl
          (fun j u hu => by have := (Arr.new w3 #[.int .i64 car, .slice Au thr.length cu] 41).cell (k := j) hu; rwa [Nat.zero_add]) (by simp [Value.oneCell']) hby ?_
        intro v1 w7 hown1 hb1 hg1 ho1
        obtain ⟨A1, c1', rfl, r1, r2⟩ := own_form hown1
        have hgw : w3.grownBy w7 (v 0).ownBlock := by rw [HV0.out, HM2.out.1]; exact grownBy_alloc_first hg1
        have HF := Lib.hid (S1.app (z := w3.heap.size + 1) HS3.out HLT.out HM2.out.2.1 (fun j hj => List.mem_cons_of_mem _ (HM2.out.2.2.1 j hj)) (by rw [HTR.out]; exact List.mem_cons_self) (List.mem_cons_of_mem _ HM2.out.2.2.2.1) HM2.out.2.2.2.2 hgw (Nat.le_succ _) hb1 (by rw [← HCAR.out]; exact hown1) (by rw [HV0.out, HM2.out.1]; rw [World.size_alloc] at ho1; exact ho1))
        have hgg : w7.heap[g]? = w3.heap[g]? := hgw.block _ hg3 fun e => absurd (HS3.out.og.symm.trans ((HS3.out.row 0 (by simp)).2 g e.symm)) (by simp)
        have hxx : w7.heap[wr.heap.size]? = w3.heap[wr.heap.size]? := hgw.block _ hx3 fun e => by have := HLT0.out _ e.symm; omega
        have t0 : w7.cell? ⟨g, 0, none⟩ = some (.slice A0 i ca0) := (World.cell?_of_block (a := ⟨g, 0, none⟩) hgg).trans y3
        have t1 : w7.frozen? ⟨g, 0, none⟩ = false := (World.frozen?_of_block (a := ⟨g, 0, none⟩) hgg).trans (HS3.out.arr.free 0)
        refine ⟨.inr ⟨t0, (World.cell?_of_block (a := ⟨wr.heap.size, 0, none⟩) hxx).trans b0, (World.cell?_of_block (a := ⟨wr.heap.size, 1, none⟩) hxx).trans b1⟩, ?_⟩
        clear hown1 hb1 hg1 ho1 hgw hgg hxx hon b0 b1 y3
        (try simp only [Act.put, List.setIfInBounds_toArray, List.set_cons_zero, List.set_cons_succ])
        repeat (first
          | (refine plan_val _ ?_ (by rfl) (by rfl) ?_ ?_
             rotate_left 1
             · rintro w9 ⟨s0, s1, s2⟩; go_simp; first | done | with_reducible rfl
             (try simp only [Act.put, List.setIfInBounds_toArray, List.set_cons_zero, List.set_cons_succ])))
        refine plan_store _ ?_ (by rfl) (by rfl) ?_ (.inl rfl) ?_
        rotate_left 1
        · go_simp; first | rfl | (refine And.intro ?_ ?_ <;> rfl)
        refine plan_end ?_
        (try simp only [Act.put, List.setIfInBounds_toArray, List.set_cons_zero, List.set_cons_succ])
        clear t0 t1
        go_wp2_with fail
        go_roundg (k.loops.length - (i + 1))
        case measure => omega
        case rel => exact ⟨i + 1, by omega, rfl, by go_num, HF.out⟩
      obtain rfl : i = k.loops.length := by omega
      have HS2 : Hid (S2 wA wr g k 0 0) := S2.start hs1
      have c1 := (HM.out.keep HBW.out).cell (j := 1) rfl
      clear hs1 hi hlt
      go_wp2_with fail
      go_loopg [44] N (fun gg ctr wr => ∃ i : Nat, i ≤ N ∧ gg = N - i ∧ ctr = .int .i64 i ∧ S2 wA wr g k i i)
      case atStart => exact ⟨0, by omega, rfl, rfl, HS2.out⟩
      case round =>
        clear HS2 c1 HBW
        obtain ⟨i, hi, rfl, rfl, hs2⟩ := hrel
        by_cases hlt : i < N
        case neg =>
          obtain rfl : i = N := by omega
          have HBZ := Lib.hid hs2.below
          obtain ⟨v0, v1, v2, vo, ha, hk⟩ := hs2.end_
          have HK := Lib.hid hk
          obtain ⟨vl, vf, vb, vo', e, hl, hf, hb, ho⟩ := hk
          simp only [Value.agg.injEq, Array.mk.injEq, List.cons.injEq, and_true] at e
          obtain ⟨rfl, rfl, rfl, rfl, _⟩ := e
          obtain ⟨Aq, cq, tq, rfl, _⟩ := hl
          obtain ⟨Af, cf, tf, rfl, _⟩ := hf
          obtain ⟨Ab, cb, tb, rfl, _⟩ := hb
          obtain ⟨Ao, co, rfl, _⟩ := ho
          have a0 := ha.cell (k := 0) rfl
          have a1 := ha.cell (k := 1) rfl
          have a2 := ha.cell (k := 2) rfl
          have a3 := ha.cell (k := 3) rfl
          have a4 := ha.cell (k := 4) rfl
          have hr := HRA.out _ (by rw [← HSA.out]; exact HBZ.out)
          have r0 := hr.cell (k := 0) rfl
          have r1 := hr.cell (k := 1) rfl
          have r2 := hr.cell (k := 2) rfl
          have r3 := hr.cell (k := 3) rfl
          have r4 := hr.cell (k := 4) rfl
          have f0 := hr.free 0
          have f1 := hr.free 1
          have f2 := hr.free 2
          have f3 := hr.free 3
          have f4 := hr.free 4
          have hq := ((((hr.set 0 (.slice Aq (told i k).loops.length cq)).set 1 (.slice Af (told i k).front.length cf)).set 2 (.slice Ab (told i k).back.length cb)).set 3 (.slice Ao (told i k).loose.length co)).set 4 (.int .i64 k.rack)
          have q0 := hq.cell (k := 0) rfl
          have q1 := hq.cell (k := 1) rfl
          have q2 := hq.cell (k := 2) rfl
          have q3 := hq.cell (k := 3) rfl
          have q4 := hq.cell (k := 4) rfl
          have HBF := Lib.hid ((((((HWA.out _ (by rw [← HSA.out]; exact HBZ.out)).setCell (p := ⟨w.heap.size, 0, none⟩) (Nat.le_refl _) (.slice Aq (told i k).loops.length cq)).setCell (p := ⟨w.heap.size, 1, none⟩) (Nat.le_refl _) (.slice Af (told i k).front.length cf)).setCell (p := ⟨w.heap.size, 2, none⟩) (Nat.le_refl _) (.slice Ab (told i k).back.length cb)).setCell (p := ⟨w.heap.size, 3, none⟩) (Nat.le_refl _) (.slice Ao (told i k).loose.length co)).setCell (p := ⟨w.heap.size, 4, none⟩) (Nat.le_refl _) (.int .i64 k.rack))
          have HFAR : Hid (∀ b, b ≠ w.heap.size → (((((wr.setCell ⟨w.heap.size, 0, none⟩ (.slice Aq (told i k).loops.length cq)).setCell ⟨w.heap.size, 1, none⟩ (.slice Af (told i k).front.length cf)).setCell ⟨w.heap.size, 2, none⟩ (.slice Ab (told i k).back.length cb)).setCell ⟨w.heap.size, 3, none⟩ (.slice Ao (told i k).loose.length co)).setCell ⟨w.heap.size, 4, none⟩ (.int .i64 k.rack)).heap[b]? = wr.heap[b]?) := fun b hb =>
            ((((Below.heap_setCell _ _ _ _ hb).trans (Below.heap_setCell _ _ _ _ hb)).trans (Below.heap_setCell _ _ _ _ hb)).trans (Below.heap_setCell _ _ _ _ hb)).trans (Below.heap_setCell _ _ _ _ hb)
          have HSZ : Hid ((((((wr.setCell ⟨w.heap.size, 0, none⟩ (.slice Aq (told i k).loops.length cq)).setCell ⟨w.heap.size, 1, none⟩ (.slice Af (told i k).front.length cf)).setCell ⟨w.heap.size, 2, none⟩ (.slice Ab (told i k).back.length cb)).setCell ⟨w.heap.size, 3, none⟩ (.slice Ao (told i k).loose.length co)).setCell ⟨w.heap.size, 4, none⟩ (.int .i64 k.rack)).heap.size = wr.heap.size) := by show _ = _; simp [World.setCell]
          clear ha hs2 hr hq
          go_wp2_with fail
          refine bodyPost_ret (v := .agg #[.slice Aq (told i k).loops.length cq, .slice Af (told i k).front.length cf, .slice Ab (told i k).back.length cb, .slice Ao (told i k).loose.length co, .int .i64 k.rack]) (by simp [results, Try.results27, go_sem, q0, q1, q2, q3, q4]) rfl ⟨_, rfl, ?_, HBF.out⟩
          refine (HK.out.same fun b hb => HFAR.out b (by have := hb.1; rw [HSA.out] at this; omega)).mono fun b hb => ⟨by have := hb.1; rw [HSA.out] at this; omega, by rw [HSZ.out]; exact hb.2⟩
        obtain ⟨own, v, n, cs, vo', cl, tl, tf, tb, hsb, k0, k1, k2⟩ := hs2
        obtain ⟨A0, ca0, hv0, hc1, hc2⟩ := own_form (hsb.row 1 (by simp)).1
        have en : n 1 = i := k1.1
        unfold maxLen at hc2
        have HSBX := Lib.hid hsb
        have HM2 := Lib.hid (And.intro k0 (And.intro k1 k2))
        have HV0 := Lib.hid hv0
        have HEN := Lib.hid en
        rw [en] at hc1
        have HBW : Hid (Below w.heap.size w wr) := HWA.out _ (by rw [← HSA.out]; exact hsb.below)
        clear hv0 k0 k1 k2 hsb en
        have HMW := Lib.hid (HM.out.keep HBW.out)
        have ht : There N 0 (i : Int) := ⟨.inl rfl, by omega, by omega⟩
        have HON : Hid (∀ w', Below w.heap.size w w' → w'.ownsRow B 3 1 (m.hv 0 (i : Int)) (k.on 0 (i : Int)).length (ints (k.on 0 (i : Int)))) := fun w' hb => (HM.out.keep hb).on 0 (i : Int)
        obtain ⟨At, ct, hvt, hct1, hct2⟩ := own_form (HMW.out.on 0 (i : Int))
        have x0 := (HMW.out.bcell ht).1
        rw [hvt] at HON x0
        have c1 := HMW.out.cell (j := 1) rfl
        have hgb := (HMW.out.bed 0 ht.1).1.lt
        have hpw := HMW.out.arr.lt
        have hthl := h8 0 (i : Int)
        clear hvt
        generalize hthr : k.on 0 (i : Int) = thr at *
        have HTR := Lib.hid hthr
        clear hthr
        go_upto_region 10 with fail
        refine wp_region_plan [(true, 0), (true, 1), (true, 2), (true, 3), (true, 4), (true, 5), (true, 6), (true, 7), (true, 8), (true, 9), (false, 10), (false, 11), (false, 12), (true, 13), (false, 14)] 14
          (fun w' => w'.cell? ⟨g, 1, none⟩ = some (.slice A0 i ca0) ∧ w'.cell? ⟨p, 1, none⟩ = some (.slice (some ⟨m.gb 0, 0, none⟩) N N) ∧ w'.cell? ⟨m.gb 0, i, none⟩ = some (.slice At thr.length ct))
          (by kernel_rfl) (by kernel_rfl) (by kernel_rfl) rfl ⟨by have := HSBX.out.drew.cell (j := 1) rfl; rw [HV0.out, HEN.out] at this; exact this, c1, x0⟩ ?_
        repeat (first
          | (refine plan_val _ ?_ (by rfl) (by rfl) ?_ ?_
             rotate_left 1
             · rintro w9 ⟨s0, s1, s2⟩; go_simp; first | done | with_reducible rfl
             (try simp only [Act.put, List.setIfInBounds_toArray, List.set_cons_zero, List.set_cons_succ])))
        refine plan_call _ ?_ ?_ (by rfl) (by rfl) ?_ ?_
        rotate_left 2
        · go_simp; (refine And.intro ?_ ?_ <;> rfl)
        refine (clone_any _ (HON.out _ (below_dN (n := 1) HBW.out)) (by omega)).mono ?_
        rintro e w3 ⟨u, rfl, hu, hb3⟩
        have HS3 := Lib.hid (HSBX.out.drew.more hb3 hu)
        obtain ⟨Au, cu, rfl, _, _, _⟩ := hu
        have y3 : w3.cell? ⟨g, 1, none⟩ = some (.slice A0 i ca0) := by have := HS3.out.cell (j := 1) rfl; rw [HV0.out, HEN.out] at this; exact this
        have b0 : w3.cell? ⟨p, 1, none⟩ = some (.slice (some ⟨m.gb 0, 0, none⟩) N N) := (World.cell?_of_block (a := ⟨p, 1, none⟩) (hb3.block p hpw)).trans c1
        have b1 : w3.cell? ⟨m.gb 0, i, none⟩ = some (.slice At thr.length ct) := (World.cell?_of_block (a := ⟨m.gb 0, i, none⟩) (hb3.block _ hgb)).trans x0
        have hg3 := HS3.out.arr.lt
        have hp3 : p < w3.heap.size := Nat.lt_of_lt_of_le hpw hb3.size
        have hx3 : m.gb 0 < w3.heap.size := Nat.lt_of_lt_of_le hgb hb3.size
        clear hb3
        refine ⟨_, rfl, .inr ⟨y3, b0, b1⟩, ?_⟩
        (try simp only [Act.put, List.setIfInBounds_toArray, List.set_cons_zero, List.set_cons_succ])
        refine plan_do _ ?_ ?_ (by rfl) (by rfl) ?_ (.inr ?_) ?_
        rotate_left 2
        · go_simp; first | rfl | (refine And.intro ?_ ?_ <;> rfl)
        · exact ⟨by rw [World.cell?_alloc_lt _ _ _ (by exact hg3)]; exact y3, by rw [World.cell?_alloc_lt _ _ _ (by exact hp3)]; exact b0, by rw [World.cell?_alloc_lt _ _ _ (by exact hx3)]; exact b1⟩
        (try simp only [Act.put, List.setIfInBounds_toArray, List.set_cons_zero, List.set_cons_succ])
        have hon : (w3.alloc (.cells #[.slice Au thr.length cu] 25)).ownsRow wA.heap.size 25 1 (.slice A0 i ca0) i (cs 1) := by
          have := own_al (HS3.out.row 1 (by simp)).1 (.cells #[.slice Au thr.length cu] 25)
          rw [HV0.out, HEN.out] at this
          exact this
        have hby : (i + 1) * 24 ≤ 140737488355328 := by omega
        refine plan_app _ T24 (w0 := wA) [.slice Au thr.length cu] hon (HS3.out.below.alloc HS3.out.below.size _) (Nat.le_refl _) (by rfl) (by rfl) rfl rfl rfl rfl
          (fun j u hu => by have := (Arr.new w3 #[.slice Au thr.length cu] 25).cell (k := j) hu; rwa [Nat.zero_add]) (by simp [Value.oneCell']) hby ?_
        intro v1 w7 hown1 hb1 hg1 ho1
        obtain ⟨A1, c1', rfl, r1, r2⟩ := own_form hown1
        have hgw : w3.grownBy w7 (v 1).ownBlock := by rw [HV0.out, HEN.out]; exact grownBy_alloc_first hg1
        have HF := Lib.hid (S2.front (z := w3.heap.size + 1) HS3.out ⟨HM2.out.1.1, HM2.out.1.2.1, fun j hj => List.mem_cons_of_mem _ (HM2.out.1.2.2.1 j hj), List.mem_cons_of_mem _ HM2.out.1.2.2.2⟩ ⟨HM2.out.2.1.1, HM2.out.2.1.2.1, fun j hj => List.mem_cons_of_mem _ (HM2.out.2.1.2.2 j hj)⟩ ⟨HM2.out.2.2.1, HM2.out.2.2.2.1, fun j hj => List.mem_cons_of_mem _ (HM2.out.2.2.2.2 j hj)⟩
          (by rw [HTR.out]; exact List.mem_cons_self) hgw (Nat.le_succ _) hb1 hown1 (by rw [HV0.out, HEN.out]; rw [World.size_alloc] at ho1; exact ho1))
        have hgg : w7.heap[g]? = w3.heap[g]? := hgw.block _ hg3 fun e => absurd (HS3.out.og.symm.trans ((HS3.out.row 1 (by simp)).2 g e.symm)) (by simp)
        have hold : ∀ x, x < w.heap.size → w7.heap[x]? = w3.heap[x]? := fun x hx => hgw.block _ (by have := HS3.out.below.size; rw [HSA.out] at this; omega) fun e => by have := ((HS3.out.row 1 (by simp)).1.lt x e.symm).1; rw [HSA.out] at this; omega
        have t0 : w7.cell? ⟨g, 1, none⟩ = some (.slice A0 i ca0) := (World.cell?_of_block (a := ⟨g, 1, none⟩) hgg).trans y3
        have t1 : w7.frozen? ⟨g, 1, none⟩ = false := (World.frozen?_of_block (a := ⟨g, 1, none⟩) hgg).trans (HS3.out.arr.free 1)
        refine ⟨.inr ⟨t0, (World.cell?_of_block (a := ⟨p, 1, none⟩) (hold p hp)).trans b0, (World.cell?_of_block (a := ⟨m.gb 0, i, none⟩) (hold _ (HM.out.bed 0 ht.1).1.lt)).trans b1⟩, ?_⟩
        clear hown1 hb1 hg1 ho1 hgw hgg hold hon b0 b1 y3 x0 c1
        (try simp only [Act.put, List.setIfInBounds_toArray, List.set_cons_zero, List.set_cons_succ])
        repeat (first
          | (refine plan_val _ ?_ (by rfl) (by rfl) ?_ ?_
             rotate_left 1
             · rintro w9 ⟨s0, s1, s2⟩; go_simp; first | done | with_reducible rfl
             (try simp only [Act.put, List.setIfInBounds_toArray, List.set_cons_zero, List.set_cons_succ])))
        refine plan_store _ ?_ (by rfl) (by rfl) ?_ (.inl rfl) ?_
        rotate_left 1
        · go_simp; first | rfl | (refine And.intro ?_ ?_ <;> rfl)
        refine plan_end ?_
        (try simp only [Act.put, List.setIfInBounds_toArray, List.set_cons_zero, List.set_cons_succ])
        have hs2 := HF.out
        generalize w7.setCell ⟨g, 1, none⟩ (.slice A1 (i + 1) c1') = w8 at *
        clear HF t0 t1 HS3 HM2 HV0 HEN HSBX HBW HMW HON HTR hgb hpw hthl hg3 hp3 hx3
        clear ht hc1 hc2 hct1 hct2 r1 r2
        obtain ⟨own, v, n, cs, vo', cl, tl, tf, tb, hsb, k0, k1, k2⟩ := hs2
        obtain ⟨A0, ca0, hv0, hc1, hc2⟩ := own_form (hsb.row 2 (by simp)).1
        have en : n 2 = i := k2.1
        unfold maxLen at hc2
        have HSBX := Lib.hid hsb
        have HM2 := Lib.hid (And.intro k0 (And.intro k1 k2))
        have HV0 := Lib.hid hv0
        have HEN := Lib.hid en
        rw [en] at hc1
        have HBW : Hid (Below w.heap.size w w8) := HWA.out _ (by rw [← HSA.out]; exact hsb.below)
        clear hv0 k0 k1 k2 hsb en
        have HMW := Lib.hid (HM.out.keep HBW.out)
        have ht : There N 1 (i : Int) := ⟨.inr rfl, by omega, by omega⟩
        have HON : Hid (∀ w', Below w.heap.size w w' → w'.ownsRow B 3 1 (m.hv 1 (i : Int)) (k.on 1 (i : Int)).length (ints (k.on 1 (i : Int)))) := fun w' hb => (HM.out.keep hb).on 1 (i : Int)
        obtain ⟨At, ct, hvt, hct1, hct2⟩ := own_form (HMW.out.on 1 (i : Int))
        have x0 := (HMW.out.bcell ht).1
        rw [hvt] at HON x0
        have c1 := HMW.out.cell (j := 2) rfl
        have hgb := (HMW.out.bed 1 ht.1).1.lt
        have hpw := HMW.out.arr.lt
        have hthl := h8 1 (i : Int)
        clear hvt
        generalize hthr : k.on 1 (i : Int) = thr at *
        have HTR := Lib.hid hthr
        clear hthr
        go_upto_region 11 with fail
        refine wp_region_plan [(true, 0), (true, 1), (true, 2), (true, 3), (true, 4), (true, 5), (true, 6), (true, 7), (true, 8), (true, 9), (false, 10), (false, 11), (false, 12), (true, 13), (false, 14)] 14
          (fun w' => w'.cell? ⟨g, 2, none⟩ = some (.slice A0 i ca0) ∧ w'.cell? ⟨p, 2, none⟩ = some (.slice (some ⟨m.gb 1, 0, none⟩) N N) ∧ w'.cell? ⟨m.gb 1, i, none⟩ = some (.slice At thr.length ct))
          (by kernel_rfl) (by kernel_rfl) (by kernel_rfl) rfl ⟨by have := HSBX.out.drew.cell (j := 2) rfl; rw [HV0.out, HEN.out] at this; exact this, c1, x0⟩ ?_
        repeat (first
          | (refine plan_val _ ?_ (by rfl) (by rfl) ?_ ?_
             rotate_left 1
             · rintro w9 ⟨s0, s1, s2⟩; go_simp; first | done | with_reducible rfl
             (try simp only [Act.put, List.setIfInBounds_toArray, List.set_cons_zero, List.set_cons_succ])))
        refine plan_call _ ?_ ?_ (by rfl) (by rfl) ?_ ?_
        rotate_left 2
        · go_simp; (refine And.intro ?_ ?_ <;> rfl)
        refine (clone_any _ (HON.out _ (below_dN (n := 1) HBW.out)) (by omega)).mono ?_
        rintro e w3 ⟨u, rfl, hu, hb3⟩
        have HS3 := Lib.hid (HSBX.out.drew.more hb3 hu)
        obtain ⟨Au, cu, rfl, _, _, _⟩ := hu
        have y3 : w3.cell? ⟨g, 2, none⟩ = some (.slice A0 i ca0) := by have := HS3.out.cell (j := 2) rfl; rw [HV0.out, HEN.out] at this; exact this
        have b0 : w3.cell? ⟨p, 2, none⟩ = some (.slice (some ⟨m.gb 1, 0, none⟩) N N) := (World.cell?_of_block (a := ⟨p, 2, none⟩) (hb3.block p hpw)).trans c1
        have b1 : w3.cell? ⟨m.gb 1, i, none⟩ = some (.slice At thr.length ct) := (World.cell?_of_block (a := ⟨m.gb 1, i, none⟩) (hb3.block _ hgb)).trans x0
        have hg3 := HS3.out.arr.lt
        have hp3 : p < w3.heap.size := Nat.lt_of_lt_of_le hpw hb3.size
        have hx3 : m.gb 1 < w3.heap.size := Nat.lt_of_lt_of_le hgb hb3.size
        clear hb3
        refine ⟨_, rfl, .inr ⟨y3, b0, b1⟩, ?_⟩
        (try simp only [Act.put, List.setIfInBounds_toArray, List.set_cons_zero, List.set_cons_succ])
        refine plan_do _ ?_ ?_ (by rfl) (by rfl) ?_ (.inr ?_) ?_
        rotate_left 2
        · go_simp; first | rfl | (refine And.intro ?_ ?_ <;> rfl)
        · exact ⟨by rw [World.cell?_alloc_lt _ _ _ (by exact hg3)]; exact y3, by rw [World.cell?_alloc_lt _ _ _ (by exact hp3)]; exact b0, by rw [World.cell?_alloc_lt _ _ _ (by exact hx3)]; exact b1⟩
        (try simp only [Act.put, List.setIfInBounds_toArray, List.set_cons_zero, List.set_cons_succ])
        have hon : (w3.alloc (.cells #[.slice Au thr.length cu] 25)).ownsRow wA.heap.size 25 1 (.slice A0 i ca0) i (cs 2) := by
          have := own_al (HS3.out.row 2 (by simp)).1 (.cells #[.slice Au thr.length cu] 25)
          rw [HV0.out, HEN.out] at this
          exact this
        have hby : (i + 1) * 24 ≤ 140737488355328 := by omega
        refine plan_app _ T24 (w0 := wA) [.slice Au thr.length cu] hon (HS3.out.below.alloc HS3.out.below.size _) (Nat.le_refl _) (by rfl) (by rfl) rfl rfl rfl rfl
          (fun j u hu => by have := (Arr.new w3 #[.slice Au thr.length cu] 25).cell (k := j) hu; rwa [Nat.zero_add]) (by simp [Value.oneCell']) hby ?_
        intro v1 w7 hown1 hb1 hg1 ho1
        obtain ⟨A1, c1', rfl, r1, r2⟩ := own_form hown1
        have hgw : w3.grownBy w7 (v 2).ownBlock := by rw [HV0.out, HEN.out]; exact grownBy_alloc_first hg1
        have HF := Lib.hid (S2.back (z := w3.heap.size + 1) HS3.out ⟨HM2.out.1.1, HM2.out.1.2.1, fun j hj => List.mem_cons_of_mem _ (HM2.out.1.2.2.1 j hj), List.mem_cons_of_mem _ HM2.out.1.2.2.2⟩ ⟨HM2.out.2.1.1, HM2.out.2.1.2.1, fun j hj => List.mem_cons_of_mem _ (HM2.out.2.1.2.2 j hj)⟩ ⟨HM2.out.2.2.1, HM2.out.2.2.2.1, fun j hj => List.mem_cons_of_mem _ (HM2.out.2.2.2.2 j hj)⟩
          (by rw [HTR.out]; exact List.mem_cons_self) hgw (Nat.le_succ _) hb1 hown1 (by rw [HV0.out, HEN.out]; rw [World.size_alloc] at ho1; exact ho1))
        have hgg : w7.heap[g]? = w3.heap[g]? := hgw.block _ hg3 fun e => absurd (HS3.out.og.symm.trans ((HS3.out.row 2 (by simp)).2 g e.symm)) (by simp)
        have hold : ∀ x, x < w.heap.size → w7.heap[x]? = w3.heap[x]? := fun x hx => hgw.block _ (by have := HS3.out.below.size; rw [HSA.out] at this; omega) fun e => by have := ((HS3.out.row 2 (by simp)).1.lt x e.symm).1; rw [HSA.out] at this; omega
        have t0 : w7.cell? ⟨g, 2, none⟩ = some (.slice A0 i ca0) := (World.cell?_of_block (a := ⟨g, 2, none⟩) hgg).trans y3
        have t1 : w7.frozen? ⟨g, 2, none⟩ = false := (World.frozen?_of_block (a := ⟨g, 2, none⟩) hgg).trans (HS3.out.arr.free 2)
        refine ⟨.inr ⟨t0, (World.cell?_of_block (a := ⟨p, 2, none⟩) (hold p hp)).trans b0, (World.cell?_of_block (a := ⟨m.gb 1, i, none⟩) (hold _ (HM.out.bed 1 ht.1).1.lt)).trans b1⟩, ?_⟩
        clear hown1 hb1 hg1 ho1 hgw hgg hold hon b0 b1 y3 x0 c1
        (try simp only [Act.put, List.setIfInBounds_toArray, List.set_cons_zero, List.set_cons_succ])
        repeat (first
          | (refine plan_val _ ?_ (by rfl) (by rfl) ?_ ?_
             rotate_left 1
             · rintro w9 ⟨s0, s1, s2⟩; go_simp; first | done | with_reducible rfl
             (try simp only [Act.put, List.setIfInBounds_toArray, List.set_cons_zero, List.set_cons_succ])))
        refine plan_store _ ?_ (by rfl) (by rfl) ?_ (.inl rfl) ?_
        rotate_left 1
        · go_simp; first | rfl | (refine And.intro ?_ ?_ <;> rfl)
        refine plan_end ?_
        (try simp only [Act.put, List.setIfInBounds_toArray, List.set_cons_zero, List.set_cons_succ])
        clear t0 t1
        go_wp2_with fail
        go_roundg (N - (i + 1))
        case measure => omega
        case rel => exact ⟨i + 1, by omega, rfl, by go_num, HF.out⟩
end Go.Proofs.Ytaacfjeddoekfaa
