import Derived.Test.YtmmakljmikdooaaDoorTw14
/- Chapter 5: the program's Alike, walked. -/
namespace Go.Proofs.YtmmakljmikdooaaDoor
open Go.RowKit Go.Shelf
set_option linter.unusedVariables false
set_option linter.unusedSimpArgs false
attribute [local go_sem] Oper.semAt_some

set_option maxRecDepth 100000 in
set_option maxHeartbeats 4000000 in
theorem Alike_any {S : Nat → Prop} {v : Value} {m : Tr} (w : World) (hv : TrR w S v m) (hS : ∀ b, S b → b < w.heap.size) (hm : OkT m) :
    Calls Tryd.prog 54 #[v] w fun e w' => ∃ u, e = .returned (.tuple #[u, .int .i64 0]) ∧ Ints w' (fun b => w.heap.size ≤ b ∧ b < w'.heap.size) u ((alikeF m).map (fun k : Nat => (k : Int))) ∧ Below w.heap.size w w' := by
  have HV := Lib.hid hv
  have HSS := Lib.hid hS
  have HOK := Lib.hid hm
  obtain ⟨A, c, rfl, h1, h2, hr⟩ := hv.form
  have hlen := hm.len
  have b1 := hm.W1
  have b2 := hm.W2
  have b3 := hm.H1
  have b4 := hm.H2
  obtain ⟨W, H, bs⟩ := m
  dsimp only at *
  have hpos : 0 < bs.length := by rw [hlen]; exact Nat.mul_pos (by omega) (by omega)
  obtain ⟨rb, ro, rfl, hrb, hrc⟩ := hr.at_ hpos
  have HL := Lib.hid hlen
  have HRC := Lib.hid hrc
  have HRB := Lib.hid hrb
  clear hS hm hv hr hlen hrc hrb hpos
  have HX := Lib.hid (Arr.new w #[.int .i64 (W : Int), .int .i64 (H : Int), .slice (some ⟨rb, ro, none⟩) bs.length c] 32)
  have HB0 := Lib.hid (al1 w (.cells #[.int .i64 (W : Int), .int .i64 (H : Int), .slice (some ⟨rb, ro, none⟩) bs.length c] 32))
  refine (callsIn_wide (n := 3)).1 ?_
  refine callsIn_of_wp_marks Tryd.func54 rfl trivial ?_ rfl
  simp only [Tryd.ntmps54, List.size_toArray, List.length_cons, List.length_nil, Nat.reduceAdd, Nat.reduceSub, Array.replicate_succ, Array.replicate_zero, List.push_toArray, List.append_toArray, List.nil_append, List.cons_append]
  gi_upto_region 1 with (fail)
  generalize w.alloc (.cells #[.int .i64 (W : Int), .int .i64 (H : Int), .slice (some ⟨rb, ro, none⟩) bs.length c] 32) = w0 at *
  have x0 := HX.out.cell (k := 0) rfl
  have x1 := HX.out.cell (k := 1) rfl
  have x2 := HX.out.cell (k := 2) rfl
  gi_wp2
  refine ⟨trivial, ?_⟩
  refine (callsIn_wide.2 (tWrong_any w0 (HV.out.same fun b hb => HB0.out.block b (HSS.out b hb)) HOK.out)).mono ?_
  rintro e w1 ⟨rfl, hb1⟩
  have HB1 := Lib.hid (HB0.out.trans (hb1.mono HB0.out.size))
  have HX1 := Lib.hid (HX.out.of_eq (hb1.block _ HX.out.lt))
  clear hb1 x0 x1 x2
  have HO2 := Lib.hid ((Arr.new w1 #[.slice none 0 0] 22).alloc (.cells #[.slice none 0 0] 157))
  have HK2 := Lib.hid (arr_new2 w1 (.cells #[.slice none 0 0] 22) #[.slice none 0 0] 157)
  have hd := al2 w1 (.cells #[.slice none 0 0] 22) (.cells #[.slice none 0 0] 157)
  gi_upto_region 6 with (fail)
  generalize (w1.alloc (.cells #[.slice none 0 0] 22)).alloc (.cells #[.slice none 0 0] 157) = w3 at *
  have HB3 := Lib.hid (HB1.out.trans (hd.mono HB1.out.size))
  have HX3 := Lib.hid (HX1.out.of_eq (hd.block _ HX1.out.lt))
  clear hd
  have x0 := HX3.out.cell (k := 0) rfl
  have x1 := HX3.out.cell (k := 1) rfl
  have x2 := HX3.out.cell (k := 2) rfl
  gi_wp2
  refine ⟨trivial, ?_⟩
  refine (callsIn_wide.2 (rows_any W H (some ⟨rb, ro, none⟩) bs.length c w3)).mono ?_
  rintro e w4' ⟨rfl, rfl⟩
  gi_wp2
  have hd := al1 w3 (.cells #[.int .i64 (W : Int), .int .i64 (H : Int), .slice (some ⟨rb, ro, none⟩) bs.length c] 32)
  have HBX := Lib.hid (Arr.new w3 #[.int .i64 (W : Int), .int .i64 (H : Int), .slice (some ⟨rb, ro, none⟩) bs.length c] 32)
  generalize w3.alloc (.cells #[.int .i64 (W : Int), .int .i64 (H : Int), .slice (some ⟨rb, ro, none⟩) bs.length c] 32) = w4 at *
  have HB4 := Lib.hid (HB3.out.trans (hd.mono HB3.out.size))
  have HO4 := Lib.hid (HO2.out.of_eq (hd.block _ HO2.out.lt))
  have HK4 := Lib.hid (HK2.out.of_eq (hd.block _ HK2.out.lt))
  have HSZ : Hid (w1.heap.size < w4.heap.size ∧ w.heap.size ≤ w4.heap.size ∧ w3.heap.size < w4.heap.size ∧ w1.heap.size + 1 < w3.heap.size ∧ w.heap.size < w1.heap.size) := ⟨HO4.out.lt, HB4.out.size, HBX.out.lt, HK2.out.lt, HX1.out.lt⟩
  clear hd x0 x1 x2
  have HI0 : Hid (AlkI w w4 w4 S w1.heap.size (w1.heap.size + 1) [] []) := ⟨⟨.slice none 0 0, .slice none 0 0, [], HO4.out, HK4.out, World.ownsRow_nil _ _ _ _, World.ownsRow_nil _ _ _ _, fun i h => absurd h (by simp), .nil _⟩, fun _ _ _ _ => rfl, Nat.le_refl _, HB4.out⟩
  have hcle : bs.length ≤ c := h1
  refine wpIn_rangeFunc_ownH (F := Fence.wide) rfl (by omega) (gf := 81) (lb := #[.pointer (some ⟨w3.heap.size, 0, none⟩)]) rfl trivial (enters_of Tryd.func81 (by kernel_rfl) rfl)
    (rows_stops 2 (by omega) w3.heap.size rb ro c W H bs.length b1 b2 b4 HL.out hcle h2 w4 HSZ.out.2.2.1 HBX.out) KB.trans (KB.put HSZ.out.2.2.1) (Below.refl _ _) (fun _ => rfl)
    (fun pre W' => AlkI w w4 W' S w1.heap.size (w1.heap.size + 1) (alF ((pre.map Subtype.val).map (Tr.row ⟨W, H, bs⟩))).1 (alF ((pre.map Subtype.val).map (Tr.row ⟨W, H, bs⟩))).2)
    (fun _ _ _ => False)
    (fun s A B row hs hg hr => hs.grown hg hr (by have := HSZ.out; omega) (by have := HSZ.out; omega) HSZ.out.2.1 HSS.out)
    (fun _ _ _ _ _ hs _ _ => hs)
    HI0.out
    (fun x a' W' => ∃ (Bx : Nat) (kv : Value), w4.heap.size ≤ Bx ∧ Arr W' Bx 30 [rowV rb ro W c x.1] ∧ Arr W' (w1.heap.size + 1) 157 [kv] ∧ kv.ownBlock ≠ some Bx ∧
      a' = { tmps := #[.agg #[.int .i64 (W : Int), .int .i64 (H : Int), .slice (some ⟨rb, ro, none⟩) bs.length c], .pointer (some ⟨w.heap.size, 0, none⟩), .slice none 0 0, .int .i64 0, .int .i64 0, .pointer (some ⟨w1.heap.size, 0, none⟩), .pointer (some ⟨w1.heap.size + 1, 0, none⟩), undef, .pointer (some ⟨Bx, 0, none⟩), undef,
        .agg #[.int .i64 (W : Int), .int .i64 (H : Int), .slice (some ⟨rb, ro, none⟩) bs.length c], .int .i64 0, .int .i64 0, .bool false, undef, .agg #[.int .i64 (W : Int), .int .i64 (H : Int), .slice (some ⟨rb, ro, none⟩) bs.length c], .func (.func 81) #[] #[.pointer (some ⟨w3.heap.size, 0, none⟩)], .int .i64 (x.1 : Int), rowV rb ro W c x.1,
        undef, undef, undef, undef, undef, undef, undef, undef, undef, undef, undef, undef, undef, undef, undef, undef], defers := [] })
    (fun x a' _ A B row hs hg hr => by
      obtain ⟨Bx, kv, k1, k2, k3, k4, k5⟩ := hs
      refine ⟨Bx, kv, k1, k2.grown hg (fun e => ?_), k3.grown hg (fun e => ?_), k4, k5⟩
      · obtain ⟨_, o, ho, hc⟩ := hr Bx e
        rw [show A.heap[Bx]? = _ from k2] at ho
        cases ho
        cases hc
      · have := (hr _ e).1; have := HSZ.out; omega)
    ?assign ?body ?done ?stop
  case assign =>
    intro l pre x W' K hi hK
    obtain ⟨ov, kv, vs, k1, k2, k3, k4, k5, k6⟩ := hi.vals
    have hn : Arr (W'.alloc (.cells #[rowV rb ro W c x.1] 30)) W'.heap.size 30 [rowV rb ro W c x.1] := Arr.new W' _ 30
    have hkv : kv.ownBlock ≠ some W'.heap.size := fun e => by have := (k4.lt _ e).2; omega
    have hi2 := hi.grown (World.grownBy_alloc W' (.cells #[rowV rb ro W c x.1] 30) none) (fun r e => by cases e) (by have := HSZ.out; omega) (by have := HSZ.out; omega) HSZ.out.2.1 HSS.out
    have hk2 := k2.alloc (.cells #[rowV rb ro W c x.1] 30)
    have hs5 := hi.size
    have hka := (KeepsOthers.alloc W' (.cells #[rowV rb ro W c x.1] 30)).from w4.heap.size
    have hkb : KB w3.heap.size W' (W'.alloc (.cells #[rowV rb ro W c x.1] 30)) := Below.heap_alloc _ _ _ (by have := HSZ.out; omega)
    unfold rowV at *
    gi_wp2
    exact hK _ _ hka hkb hi2 ⟨_, kv, hs5, hn, hk2, hkv, rfl⟩
  case body =>
    rintro l pre ⟨y, hy⟩ a' W' hl ⟨r, hr⟩ hi ⟨Bx, kv0, hbx, hba, hbk, hkn, rfl⟩ hlt
    dsimp only
    obtain ⟨yw, eyw, hm5, hm6, z1, z2, z3, z4⟩ := row_mul b2 b4 hy HL.out
    clear z1 z2 z3 z4
    have HNX : Hid (alF (((pre ++ [(⟨y, hy⟩ : RowN H)]).map Subtype.val).map (Tr.row ⟨W, H, bs⟩)) = alStep (alF ((pre.map Subtype.val).map (Tr.row ⟨W, H, bs⟩))) (Tr.row ⟨W, H, bs⟩ y)) := by
      show _ = _
      rw [List.map_append, List.map_append, List.map_cons, List.map_nil, List.map_cons, List.map_nil, alF_snoc]
    have hln := alF_len ((pre.map Subtype.val).map (Tr.row ⟨W, H, bs⟩))
    rw [List.length_map, List.length_map] at hln
    have HRD : Hid (∀ W2 : World, Below w.heap.size w W2 → Bls W2 S (.slice (some ⟨rb, ro + yw, none⟩) W (c - yw)) (Tr.row ⟨W, H, bs⟩ y)) := fun W2 h =>
      row_bls HOK.out eyw HRB.out (fun j u hu => (World.cell?_of_block (a := ⟨rb, ro + j, none⟩) (h.block rb (HSS.out rb HRB.out))).trans (HRC.out j u hu)) hy hcle h2
    unfold rowV at hba ⊢
    rw [eyw] at hba ⊢
    generalize alF ((pre.map Subtype.val).map (Tr.row ⟨W, H, bs⟩)) = st at *
    generalize Tr.row ⟨W, H, bs⟩ y = row at *
    obtain ⟨out, ks⟩ := st
    dsimp only at hi hln
    obtain ⟨ov, kv, vs, k1, k2, k3, k4, k5, k6⟩ := hi.vals
    have ekv : kv0 = kv := by
      have h := hbk.symm.trans k2
      simpa using h
    subst ekv
    obtain ⟨Ak, ck, rfl, hkc1, hkc2⟩ := own_form k4
    have HALL := Lib.hid k5
    have t6 := k2.cell (k := 0) rfl
    have hkl : ks.length ≤ 64 := by omega
    have hol : out.length ≤ 64 := by omega
    have HROWK := Lib.hid (Row.of_own k4)
    have HBXC : Hid (W'.cell? ⟨Bx, 0, none⟩ = some (.slice (some ⟨rb, ro + yw, none⟩) W (c - yw))) := hba.cell (k := 0) rfl
    have HI := Lib.hid hi
    have HK1 := Lib.hid k1
    have HK2 := Lib.hid k2
    have HK3 := Lib.hid k3
    have HK4 := Lib.hid k4
    have HK6 := Lib.hid k6
    have HBA := Lib.hid hba
    have HLE := Lib.hid hlt
    clear hi k1 k2 k3 k4 k5 k6 hba hbk hln eyw hr hlt
    unfold maxLen at hkc2
    gi_wp2
    refine ⟨trivial, ?_⟩
    refine (CallsIn.inRound l (callsIn_wide.2 (IndexFunc_any (U := S) Ak ck Bx _ W' HROWK.out hkc1 (by unfold maxLen; exact hkc2) HALL.out (HRD.out W' HI.out.below) HBXC.out))).mono ?_
    rintro e W5 ⟨rfl, kd, rfl⟩
    have HI5 := Lib.hid (HI.out.dN kd)
    have HK15 := Lib.hid (HK1.out.dN kd)
    have HK25 := Lib.hid (HK2.out.dN kd)
    have HK35 := Lib.hid (own_dN (k := kd) HK3.out)
    have HK45 := Lib.hid (own_dN (k := kd) HK4.out)
    have HALL5 : Hid (∀ i (h : i < ks.length) (u : Value), vs[i]? = some u → Bls (W'.drewN kd) S u ks[i]) := fun i h u hu => (HALL.out i h u hu).same fun _ _ => rfl
    have HBA5 := Lib.hid (HBA.out.dN kd)
    have HKF5 := Lib.hid (keeps_dN w4.heap.size W' kd)
    have HKB5 : Hid (KB w3.heap.size W' (W'.drewN kd)) := rfl
    clear HI HK1 HK2 HK3 HK4 HALL HBA HROWK HBXC t6
    generalize W'.drewN kd = W5 at *
    rcases indexR_range (xs := ks) (v := row) with hix | ⟨ix, hixl, hix⟩
    · have HNX2 : Hid (alStep (out, ks) row = (out ++ [ks.length], ks ++ [row])) := by show _ = _; unfold alStep; dsimp only; rw [hix, if_pos (by omega)]
      rw [hix]
      clear hix
      have HT6 : Hid (W5.drew.cell? ⟨w1.heap.size + 1, 0, none⟩ = some (.slice Ak ks.length ck) ∧ W5.drew.cell? ⟨Bx, 0, none⟩ = some (.slice (some ⟨rb, ro + yw, none⟩) W (c - yw))) := ⟨HK25.out.cell (k := 0) rfl, HBA5.out.cell (k := 0) rfl⟩
      have hs5 := HI5.out.size
      have hbkl : w1.heap.size + 1 < W5.heap.size := HK25.out.lt
      have hbxl : Bx < W5.heap.size := HBA5.out.lt
      gi_upto_region 10 with (fail)
      refine wpIn_region_plan [(true, 0), (true, 1), (true, 2), (true, 3), (false, 4), (false, 5), (true, 6), (false, 7)] 7
        (fun w' => w'.cell? ⟨w1.heap.size + 1, 0, none⟩ = some (.slice Ak ks.length ck) ∧ w'.cell? ⟨Bx, 0, none⟩ = some (.slice (some ⟨rb, ro + yw, none⟩) W (c - yw)))
        (by kernel_rfl) (by kernel_rfl) (by kernel_rfl) (by kernel_rfl) rfl HT6.out ?_
      repeat (first
        | (refine plan_val _ ?_ (by rfl) (by rfl) ?_ ?_
           rotate_left 1
           · rintro w9 ⟨s0, s1⟩; go_simp; first | done | with_reducible rfl
           (try simp only [Act.put, List.setIfInBounds_toArray, List.set_cons_zero, List.set_cons_succ])))
      refine plan_do _ ?_ ?_ (by rfl) (by rfl) ?_ (.inr ?_) ?_
      rotate_left 2
      · go_simp; first | rfl | (refine And.intro ?_ ?_ <;> rfl)
      · exact ⟨(World.cell?_alloc_lt W5 _ _ (by exact hbkl)).trans HT6.out.1, (World.cell?_alloc_lt W5 _ _ (by exact hbxl)).trans HT6.out.2⟩
      (try simp only [Act.put, List.setIfInBounds_toArray, List.set_cons_zero, List.set_cons_succ])
      refine plan_app _ T157r (w0 := W5) [.slice (some ⟨rb, ro + yw, none⟩) W (c - yw)] (own_dN (k := 1) (own_al HK45.out _)) (below_dN (n := 1) (below_al (Below.refl _ W5) hs5 _)) hs5 (by rfl) (by rfl) rfl rfl rfl rfl
        (fun j u' hu => by have := (Arr.new W5 #[.slice (some ⟨rb, ro + yw, none⟩) W (c - yw)] 30).cell (k := j) hu; rwa [Nat.zero_add]) (by simp [Value.oneCell']) (by omega) ?_
      intro v1' w8 hown1 hb1 hg1 ho1
      obtain ⟨A2, c2, hv1, _, _⟩ := own_form hown1
      subst hv1
      have hgg := grownBy_alloc_first (w := W5) (w' := w8) (o := .cells #[.slice (some ⟨rb, ro + yw, none⟩) W (c - yw)] 30) ⟨hg1.os, hg1.tape, hg1.output, hg1.size, hg1.block⟩
      have hk8 := HK25.out.grown hgg (row_ne HK45.out (by have := HSZ.out; omega))
      have t0 := hk8.cell (k := 0) rfl
      have t1 := hk8.free 0
      have hx8 := (HBA5.out.grown hgg hkn).cell (k := 0) rfl
      refine ⟨.inr ⟨t0, hx8⟩, ?_⟩
      (try simp only [Act.put, List.setIfInBounds_toArray, List.set_cons_zero, List.set_cons_succ])
      repeat (first
        | (refine plan_val _ ?_ (by rfl) (by rfl) ?_ ?_
           rotate_left 1
           · rintro w9 ⟨s0, s1⟩; go_simp; first | done | with_reducible rfl
           (try simp only [Act.put, List.setIfInBounds_toArray, List.set_cons_zero, List.set_cons_succ])))
      refine plan_store _ ?_ (by rfl) (by rfl) ?_ (.inl rfl) ?_
      rotate_left 1
      · go_simp; first | rfl | (refine And.intro ?_ ?_ <;> rfl)
      refine plan_endN ?_
      (try simp only [Act.put, List.setIfInBounds_toArray, List.set_cons_zero, List.set_cons_succ])
      clear t0 t1 hx8
      have HI9 := Lib.hid (HI5.out.pushK HK15.out HK25.out HK35.out HK45.out HALL5.out HK6.out (HRD.out W5 HI5.out.below) hown1 hgg ho1 (by simp) (by have := HSZ.out; omega) (by have := HSZ.out; omega) (by omega) (by have := HSZ.out; omega) HSZ.out.2.1 HSS.out)
      have HKF9 := Lib.hid ((HKF5.out.trans ((KeepsOthers.of_grownBy hgg (own_cells HK45.out)).from w4.heap.size)).trans ((KeepsOthers.setCell w8 ⟨w1.heap.size + 1, 0, none⟩ (.slice A2 (ks.length + 1) c2)).from w4.heap.size))
      have HKB9 : Hid (KB w3.heap.size W' (w8.setCell ⟨w1.heap.size + 1, 0, none⟩ (.slice A2 (ks.length + 1) c2))) := KB.trans (KB.trans HKB5.out (hgg.block _ (by have := HSZ.out; omega) (fun e => by have := (HK45.out.lt _ e.symm).1; have := HSZ.out; omega))) (Below.heap_setCell _ _ _ _ (by show w3.heap.size ≠ w1.heap.size + 1; have := HSZ.out; omega))
      clear hown1 hb1 hg1 ho1 hgg hk8 hs5 hbkl hbxl
      generalize w8.setCell ⟨w1.heap.size + 1, 0, none⟩ (.slice A2 (ks.length + 1) c2) = w7 at *
      obtain ⟨ov7, kv7, vs7, q1, q2, q3, q4, q5, q6⟩ := HI9.out.vals
      have HQ1 := Lib.hid q1
      have HQ2 := Lib.hid q2
      have HQ3 := Lib.hid q3
      have HQ4 := Lib.hid q4
      have HQ5 := Lib.hid q5
      have HQ6 := Lib.hid q6
      have t5 := q1.cell (k := 0) rfl
      have f5 := q1.free 0
      have hs5 := HI9.out.size
      have hb5 : w1.heap.size < w4.heap.size := by have := HSZ.out; omega
      clear q1 q2 q3 q4 q5 q6
      gi_wp2_with (gi_at_builtin
                   refine app_elIn T22d [.int .i64 (ks.length : Int)] HQ3.out (Below.refl _ w7) hs5 rfl rfl rfl rfl rfl (by simp [Value.oneCell']) (by omega) ?_
                   intro v2 w9 hown2 hb2 hg2 ho2
                   obtain ⟨A9, c9, rfl, hc91, hc92⟩ := own_form hown2
                   have t59 := (HQ1.out.grown hg2 (row_ne HQ3.out hb5)).cell (k := 0) rfl
                   have f59 := (HQ1.out.grown hg2 (row_ne HQ3.out hb5)).free 0)
      have HKX := Lib.hid ((HKF9.out.trans ((KeepsOthers.of_grownBy hg2 (own_cells HQ3.out)).from w4.heap.size)).trans ((KeepsOthers.setCell w9 ⟨w1.heap.size, 0, none⟩ (.slice A9 (out.length + 1) c9)).from w4.heap.size))
      have HKBX : Hid (KB w3.heap.size W' (w9.setCell ⟨w1.heap.size, 0, none⟩ (.slice A9 (out.length + 1) c9))) := KB.trans (KB.trans HKB9.out (hg2.block _ (by have := HSZ.out; omega) (fun e => by have := (HQ3.out.lt _ e.symm).1; have := HSZ.out; omega))) (Below.heap_setCell _ _ _ _ (by show w3.heap.size ≠ w1.heap.size; have := HSZ.out; omega))
      refine ⟨HKX.out, HKBX.out, ?_⟩
      show AlkI w w4 _ S w1.heap.size (w1.heap.size + 1) (alF (((pre ++ [(⟨y, hy⟩ : RowN H)]).map Subtype.val).map (Tr.row ⟨W, H, bs⟩))).1 (alF (((pre ++ [(⟨y, hy⟩ : RowN H)]).map Subtype.val).map (Tr.row ⟨W, H, bs⟩))).2
      rw [HNX.out, HNX2.out]
      exact HI9.out.pushO HQ1.out HQ2.out HQ3.out HQ4.out HQ5.out HQ6.out hown2 hg2 ho2 (Nat.le_succ _) hb5 (by have := HSZ.out; omega) (by omega) (by have := HSZ.out; omega) HSZ.out.2.1 HSS.out
    · have HNX2 : Hid (alStep (out, ks) row = (out ++ [ix], ks)) := by show _ = _; unfold alStep; dsimp only; rw [hix, if_neg (by omega), Int.toNat_natCast]
      rw [hix]
      clear hix
      have g0 : decide ((ix : Int) < 0) = false := decide_eq_false (by omega)
      have t5 := HK15.out.cell (k := 0) rfl
      have f5 := HK15.out.free 0
      have hs5 := HI5.out.size
      have hb5 : w1.heap.size < w4.heap.size := by have := HSZ.out; omega
      gi_wp2_with (gi_at_builtin
                   refine app_elIn T22d [.int .i64 (ix : Int)] HK35.out (Below.refl _ W5) hs5 rfl rfl rfl rfl rfl (by simp [Value.oneCell']) (by omega) ?_
                   intro v2 w9 hown2 hb2 hg2 ho2
                   obtain ⟨A9, c9, rfl, hc91, hc92⟩ := own_form hown2
                   have t59 := (HK15.out.grown hg2 (row_ne HK35.out hb5)).cell (k := 0) rfl
                   have f59 := (HK15.out.grown hg2 (row_ne HK35.out hb5)).free 0)
      have HKX := Lib.hid ((HKF5.out.trans ((KeepsOthers.of_grownBy hg2 (own_cells HK35.out)).from w4.heap.size)).trans ((KeepsOthers.setCell w9 ⟨w1.heap.size, 0, none⟩ (.slice A9 (out.length + 1) c9)).from w4.heap.size))
      have HKBX : Hid (KB w3.heap.size W' (w9.setCell ⟨w1.heap.size, 0, none⟩ (.slice A9 (out.length + 1) c9))) := KB.trans (KB.trans HKB5.out (hg2.block _ (by have := HSZ.out; omega) (fun e => by have := (HK35.out.lt _ e.symm).1; have := HSZ.out; omega))) (Below.heap_setCell _ _ _ _ (by show w3.heap.size ≠ w1.heap.size; have := HSZ.out; omega))
      refine ⟨HKX.out, HKBX.out, ?_⟩
      show AlkI w w4 _ S w1.heap.size (w1.heap.size + 1) (alF (((pre ++ [(⟨y, hy⟩ : RowN H)]).map Subtype.val).map (Tr.row ⟨W, H, bs⟩))).1 (alF (((pre ++ [(⟨y, hy⟩ : RowN H)]).map Subtype.val).map (Tr.row ⟨W, H, bs⟩))).2
      rw [HNX.out, HNX2.out]
      exact HI5.out.pushO HK15.out HK25.out HK35.out HK45.out HALL5.out HK6.out hown2 hg2 ho2 (Nat.le_succ _) hb5 (by have := HSZ.out; omega) (by omega) (by have := HSZ.out; omega) HSZ.out.2.1 HSS.out
  case done =>
    rintro D ys W' hD ⟨hl, hup⟩ hi hK
    have HYS : Hid (ys.map Subtype.val = List.range H) := Eq.trans hup (congrArg List.range hl)
    rw [HYS.out] at hi
    have HE : Hid ((alF ((List.range H).map (Tr.row ⟨W, H, bs⟩))).1 = alikeF ⟨W, H, bs⟩) := rfl
    rw [HE.out] at hi
    generalize hge : alikeF ⟨W, H, bs⟩ = out at *
    have HGE := Lib.hid hge
    clear hge
    have HI := Lib.hid hi
    obtain ⟨ov, kv, vs, k1, k2, k3, k4, k5, k6⟩ := hi.vals
    obtain ⟨Ao, co, rfl, _, _⟩ := own_form k3
    have t5 := k1.cell (k := 0) rfl
    have HK3 := Lib.hid k3
    have HKD := Lib.hid hK
    clear hl hup hi hK k1 k2 k3 k4 k5 k6
    gi_wp2
    refine ⟨by simp, .inl ⟨_, _, rfl, run_takeDeferred HKD.out, ?_⟩⟩
    have hgr := grownBy_putObj' W' D (.deferred none)
    have HK9 := Lib.hid (own_from HK3.out hgr (fun r e => by cases e; exact ⟨_, HKD.out, rfl⟩))
    have HBZ := Lib.hid (HI.out.below.grown hgr HI.out.below.size (fun k e => by cases e; have := HSZ.out; omega))
    generalize World.putObj W' D (.deferred none) = w9 at *
    refine ⟨_, results_tmp2 rfl _ _ _, _, rfl, ?_, HBZ.out⟩
    rw [HGE.out]
    show Ints w9 _ (.slice Ao out.length co) (out.map fun k : Nat => (k : Int))
    exact (Ints.of_own HK9.out).mono (fun b (hb : w4.heap.size ≤ b ∧ b < w9.heap.size) => ⟨by have := HSZ.out; omega, hb.2⟩)
  case stop =>
    rintro D cc pre W' hD _ h _
    exact h.elim
end Go.Proofs.YtmmakljmikdooaaDoor
