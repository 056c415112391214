import Derived.Test.YtmmakljmikdooaaDoorTw13
import Derived.Test.YtmmakljmikdooaaDoorSeqIn
/- Chapter 5: the program's longest. -/
namespace Go.Proofs.YtmmakljmikdooaaDoor
open Go.RowKit Go.Shelf
set_option linter.unusedVariables false
set_option linter.unusedSimpArgs false
attribute [local go_sem] Oper.semAt_some

/-- what longest's loops keep -/
structure LongI (w wL W : World) (b5 mo : Nat) : Prop where
  most : Arr W b5 3 [.int .i64 (mo : Int)]
  old : ∀ b, b < wL.heap.size → b ≠ b5 → W.heap[b]? = wL.heap[b]?
  size : wL.heap.size ≤ W.heap.size
  below : Below w.heap.size w W
section
variable {w wL W W' : World} {b5 mo : Nat}
theorem LongI.grown (h : LongI w wL W b5 mo) {row : Option Nat} (hg : W.grownBy W' row) (hr : ∀ r, row = some r → wL.heap.size ≤ r ∧ ∃ o : Obj, W.heap[r]? = some o ∧ o.isCells = false) (hgL : b5 < wL.heap.size) (hw : w.heap.size ≤ wL.heap.size) : LongI w wL W' b5 mo := by
  refine ⟨h.most.grown hg (fun e => ?_), fun b k1 k2 => (hg.block b (Nat.lt_of_lt_of_le k1 h.size) (fun e => ?_)).trans (h.old b k1 k2), Nat.le_trans h.size hg.size, ?_⟩
  · have := (hr b5 e).1; omega
  · have := (hr b e.symm).1; omega
  · exact h.below.grown hg h.below.size (fun k e => by have := (hr k e).1; omega)
theorem LongI.dN (h : LongI w wL W b5 mo) (n : Nat) : LongI w wL (W.drewN n) b5 mo := ⟨h.most, h.old, h.size, below_dN h.below⟩
theorem LongI.set (h : LongI w wL W b5 mo) (hw : w.heap.size ≤ b5) (m' : Nat) : LongI w wL (W.setCell ⟨b5, 0, none⟩ (.int .i64 (m' : Int))) b5 m' :=
  ⟨h.most.set 0 _, fun b k1 k2 => (Below.heap_setCell _ _ _ _ (by show b ≠ b5; exact k2)).trans (h.old b k1 k2), by simpa [World.setCell] using h.size, h.below.setCell hw _⟩
end
theorem keeps_dN (B : Nat) (W : World) (n : Nat) : KeepsFrom B W (W.drewN n) := ⟨Nat.le_refl _, fun _ _ _ h _ => h⟩
theorem row_bls {m : Tr} (hm : OkT m) {W2 : World} {S : Nat → Prop} {rb ro c y yw : Nat} (hyw : y * m.w = yw) (hS : S rb) (hc : ∀ j u, (m.bs.map Value.bool)[j]? = some u → W2.cell? ⟨rb, ro + j, none⟩ = some u) (hy : y < m.h) (h1 : m.bs.length ≤ c) (h2 : c ≤ maxLen) :
    Bls W2 S (.slice (some ⟨rb, ro + yw, none⟩) m.w (c - yw)) (m.row y) := by
  have h3 := hm.at_ hy
  rw [Nat.succ_mul, hyw] at h3
  have hl := hm.row_len hy
  refine ⟨some ⟨rb, ro + yw, none⟩, c - yw, by rw [hl], by rw [hl]; omega, by omega, ?_⟩
  rw [hl]
  refine ⟨by rw [List.length_map, hl, Nat.mul_one], fun _ => ⟨rb, ro + yw, rfl, hS, fun j u hu => ?_⟩⟩
  rw [List.getElem?_map] at hu
  have hj : j < m.w := by
    rcases Nat.lt_or_ge j m.w with k | k
    · exact k
    · rw [List.getElem?_eq_none (by omega)] at hu
      cases hu
  rw [hm.row_get hy hj, hyw] at hu
  rw [Nat.add_assoc]
  exact hc (yw + j) u (by rw [List.getElem?_map]; exact hu)
set_option maxRecDepth 100000 in
set_option maxHeartbeats 4000000 in
theorem longest_any {S : Nat → Prop} {v : Value} {m : Tr} (vb : Bool) (w : World) (hv : TrR w S v m) (hS : ∀ b, S b → b < w.heap.size) (hm : OkT m) :
    Calls Tryd.prog 58 #[v, .bool vb] w fun e w' => e = .returned (.int .i64 (longF m vb)) ∧ Below w.heap.size w w' := by
  have HV := Lib.hid hv
  have HSS := Lib.hid hS
  have HOK := Lib.hid hm
  obtain ⟨A, c, rfl, h1, h2, hr⟩ := hv.form
  have hlen := hm.len
  have b1 := hm.W1
  have b2 := hm.W2
  have b3 := hm.H1
  have b4 := hm.H2
  obtain ⟨W, H, bs⟩ := m
  dsimp only at *
  have hpos : 0 < bs.length := by rw [hlen]; exact Nat.mul_pos (by omega) (by omega)
  obtain ⟨rb, ro, rfl, hrb, hrc⟩ := hr.at_ hpos
  have HL := Lib.hid hlen
  have HRC := Lib.hid hrc
  have HRB := Lib.hid hrb
  clear hS hm hv hr hlen hrc hrb hpos
  have HX := Lib.hid (((Arr.new w #[.int .i64 (W : Int), .int .i64 (H : Int), .slice (some ⟨rb, ro, none⟩) bs.length c] 32).alloc (.cells #[.bool vb] 4)).alloc (.cells #[.int .i64 0] 3))
  have HV1 := Lib.hid ((arr_new2 w (.cells #[.int .i64 (W : Int), .int .i64 (H : Int), .slice (some ⟨rb, ro, none⟩) bs.length c] 32) #[.bool vb] 4).alloc (.cells #[.int .i64 0] 3))
  have HR := Lib.hid (arr_new3 w (.cells #[.int .i64 (W : Int), .int .i64 (H : Int), .slice (some ⟨rb, ro, none⟩) bs.length c] 32) (.cells #[.bool vb] 4) #[.int .i64 0] 3)
  have HB0 := Lib.hid (al3 w (.cells #[.int .i64 (W : Int), .int .i64 (H : Int), .slice (some ⟨rb, ro, none⟩) bs.length c] 32) (.cells #[.bool vb] 4) (.cells #[.int .i64 0] 3))
  refine (callsIn_wide (n := 3)).1 ?_
  refine callsIn_of_wp_marks Tryd.func58 rfl trivial ?_ rfl
  simp only [Tryd.ntmps58, List.size_toArray, List.length_cons, List.length_nil, Nat.reduceAdd, Nat.reduceSub, Array.replicate_succ, Array.replicate_zero, List.push_toArray, List.append_toArray, List.nil_append, List.cons_append]
  gi_upto_region 1 with (fail)
  generalize ((w.alloc (.cells #[.int .i64 (W : Int), .int .i64 (H : Int), .slice (some ⟨rb, ro, none⟩) bs.length c] 32)).alloc (.cells #[.bool vb] 4)).alloc (.cells #[.int .i64 0] 3) = w0 at *
  have HM := Lib.hid (Arr.new w0 #[.int .i64 0] 3)
  have hd := al1 w0 (.cells #[.int .i64 0] 3)
  gi_upto_region 2 with (fail)
  generalize w0.alloc (.cells #[.int .i64 0] 3) = w3 at *
  have HB3 := Lib.hid (HB0.out.trans (hd.mono HB0.out.size))
  have HX3 := Lib.hid (HX.out.of_eq (hd.block _ HX.out.lt))
  have HV3 := Lib.hid (HV1.out.of_eq (hd.block _ HV1.out.lt))
  have HR3 := Lib.hid (HR.out.of_eq (hd.block _ HR.out.lt))
  clear hd
  have x0 := HX3.out.cell (k := 0) rfl
  have x1 := HX3.out.cell (k := 1) rfl
  have x2 := HX3.out.cell (k := 2) rfl
  gi_wp2
  refine ⟨trivial, ?_⟩
  refine (callsIn_wide.2 (rows_any W H (some ⟨rb, ro, none⟩) bs.length c w3)).mono ?_
  rintro e w4' ⟨rfl, rfl⟩
  gi_wp2
  have hd := al1 w3 (.cells #[.int .i64 (W : Int), .int .i64 (H : Int), .slice (some ⟨rb, ro, none⟩) bs.length c] 32)
  have HBX := Lib.hid (Arr.new w3 #[.int .i64 (W : Int), .int .i64 (H : Int), .slice (some ⟨rb, ro, none⟩) bs.length c] 32)
  generalize w3.alloc (.cells #[.int .i64 (W : Int), .int .i64 (H : Int), .slice (some ⟨rb, ro, none⟩) bs.length c] 32) = w4 at *
  have HB4 := Lib.hid (HB3.out.trans (hd.mono HB3.out.size))
  have HV4 := Lib.hid (HV3.out.of_eq (hd.block _ HV3.out.lt))
  have HR4 := Lib.hid (HR3.out.of_eq (hd.block _ HR3.out.lt))
  have HM4 := Lib.hid (HM.out.of_eq (hd.block _ HM.out.lt))
  have HSZ : Hid (w0.heap.size < w4.heap.size ∧ w.heap.size ≤ w4.heap.size ∧ w3.heap.size < w4.heap.size ∧ w.heap.size + 1 + 1 < w0.heap.size ∧ w0.heap.size < w3.heap.size) := ⟨HM4.out.lt, HB4.out.size, HBX.out.lt, HR.out.lt, HM.out.lt⟩
  clear hd x0 x1 x2
  have HI0 : Hid (LongI w w4 w4 w0.heap.size 0) := ⟨HM4.out, fun _ _ _ => rfl, Nat.le_refl _, HB4.out⟩
  have hcle : bs.length ≤ c := h1
  refine wpIn_rangeFunc_ownH (F := Fence.wide) rfl (by omega) (gf := 81) (lb := #[.pointer (some ⟨w3.heap.size, 0, none⟩)]) rfl trivial (enters_of Tryd.func81 (by kernel_rfl) rfl)
    (rows_stops 2 (by omega) w3.heap.size rb ro c W H bs.length b1 b2 b4 HL.out hcle h2 w4 HSZ.out.2.2.1 HBX.out) KB.trans (KB.put HSZ.out.2.2.1) (Below.refl _ _) (fun _ => rfl)
    (fun pre W' => ∃ mo : Nat, mo ≤ 64 ∧ lmF vb ((pre.map Subtype.val).map (Tr.row ⟨W, H, bs⟩)) = some mo ∧ LongI w w4 W' w0.heap.size mo)
    (fun cc pre W' => cc = .ret ∧ lmF vb ((pre.map Subtype.val).map (Tr.row ⟨W, H, bs⟩)) = none ∧ Arr W' (w.heap.size + 1 + 1) 3 [.int .i64 65] ∧ Below w.heap.size w W')
    (fun s A B row hs hg hr => by
      obtain ⟨mo, h1, h2, h3⟩ := hs
      exact ⟨mo, h1, h2, h3.grown hg hr HSZ.out.1 HSZ.out.2.1⟩)
    (fun cc s A B row hs hg hr => ⟨hs.1, hs.2.1, hs.2.2.1.grown hg (fun e => by have := (hr _ e).1; have := HSZ.out; omega), hs.2.2.2.grown hg hs.2.2.2.size (fun k e => by have := (hr k e).1; have := HSZ.out; omega)⟩)
    ⟨0, by omega, rfl, HI0.out⟩
    (fun x a' _ => a' = { tmps := #[.agg #[.int .i64 (W : Int), .int .i64 (H : Int), .slice (some ⟨rb, ro, none⟩) bs.length c], .bool vb, .pointer (some ⟨w.heap.size, 0, none⟩), .pointer (some ⟨w.heap.size + 1, 0, none⟩), .pointer (some ⟨w.heap.size + 1 + 1, 0, none⟩), .pointer (some ⟨w0.heap.size, 0, none⟩), undef, rowV rb ro W c x.1, undef, undef, undef,
        .agg #[.int .i64 (W : Int), .int .i64 (H : Int), .slice (some ⟨rb, ro, none⟩) bs.length c], .func (.func 81) #[] #[.pointer (some ⟨w3.heap.size, 0, none⟩)], .int .i64 (x.1 : Int), rowV rb ro W c x.1, undef, undef, undef, undef, undef, undef, undef, undef, undef, undef, undef, undef, undef, undef, undef, undef, undef, undef, undef, undef, undef, undef, undef, undef, undef, undef, undef, undef, undef], defers := [] })
    (fun _ _ _ _ _ _ hs _ _ => hs) ?assign ?body ?done ?stop
  case assign =>
    intro l pre x W' K hi hK
    gi_wp2
    exact hK _ _ (KeepsFrom.refl _ _) rfl hi rfl
  case body =>
    rintro l pre ⟨y, hy⟩ a' W' hl ⟨r, hr⟩ ⟨mo, hmo, hlm, hi⟩ rfl hlt
    dsimp only
    obtain ⟨yw, eyw, hm5, hm6, z1, z2, z3, z4⟩ := row_mul b2 b4 hy HL.out
    clear z1 z2 z3 z4
    have hrowl : (Tr.row ⟨W, H, bs⟩ y).length = W := HOK.out.row_len hy
    have HRG : Hid (∀ x, x < W → (Tr.row ⟨W, H, bs⟩ y)[x]? = bs[yw + x]?) := fun x hx => by rw [← eyw]; exact HOK.out.row_get hy hx
    unfold rowV
    rw [eyw]
    have HRWL := Lib.hid hrowl
    have HLM := Lib.hid hlm
    have HI := Lib.hid hi
    have HRD : Hid (∀ W2 : World, LongI w w4 W2 w0.heap.size mo → Bls W2 S (.slice (some ⟨rb, ro + yw, none⟩) W (c - yw)) (Tr.row ⟨W, H, bs⟩ y)) := fun W2 h =>
      row_bls HOK.out eyw HRB.out (fun j u hu => (World.cell?_of_block (a := ⟨rb, ro + j, none⟩) (h.below.block rb (HSS.out rb HRB.out))).trans (HRC.out j u hu)) hy hcle h2
    have HPR : Hid (lmF vb (((pre ++ [(⟨y, hy⟩ : RowN H)]).map Subtype.val).map (Tr.row ⟨W, H, bs⟩)) = rowL vb (Tr.row ⟨W, H, bs⟩ y) mo) := by
      show _ = _
      rw [List.map_append, List.map_append, List.map_cons, List.map_nil, List.map_cons, List.map_nil, lmF_snoc, hlm]; rfl
    have HRL : Hid (∀ mo, rowL vb (Tr.row ⟨W, H, bs⟩ y) mo = if indexF (Tr.row ⟨W, H, bs⟩ y) (!vb) < 0 then none else some (scanF (Tr.row ⟨W, H, bs⟩ y) vb (indexF (Tr.row ⟨W, H, bs⟩ y) (!vb)).toNat W (0, mo)).2) := fun mo => by
      unfold rowL
      rw [HRWL.out]
    have hv5 := HV4.out.of_eq (hi.old _ HV4.out.lt (by have := HSZ.out; omega))
    have v0 := hv5.cell (k := 0) rfl
    have HIR := Lib.hid (indexF_range (xs := Tr.row ⟨W, H, bs⟩ y) (v := !vb))
    rw [HRWL.out] at HIR
    generalize hrow : Tr.row ⟨W, H, bs⟩ y = row at *
    clear eyw hlm hrowl hv5 hrow
    gi_wp2
    refine ⟨trivial, ?_⟩
    refine (CallsIn.inRound l (callsIn_wide.2 (Index_any _ (!vb) W' (HRD.out W' hi)))).mono ?_
    rintro e W5 ⟨rfl, kd, rfl⟩
    have HI5 := Lib.hid (hi.dN kd)
    have HK5 := Lib.hid (keeps_dN w4.heap.size W' kd)
    have HKB5 : Hid (KB w3.heap.size W' (W'.drewN kd)) := rfl
    clear hi v0
    generalize W'.drewN kd = W5 at *
    generalize hix : indexF row (!vb) = ix at *
    clear hix
    rcases HIR.out with rfl | ⟨fr, hfr, rfl⟩
    · have HRL2 := Lib.hid (HRL.out mo)
      rw [if_pos (by omega), ← HPR.out] at HRL2
      have hr := HR4.out.of_eq (HI5.out.old _ HR4.out.lt (by have := HSZ.out; omega))
      have HRW := Lib.hid hr
      have r0 := hr.cell (k := 0) rfl
      have f0 := hr.free 0
      clear hr
      gi_wp2
      exact ⟨HK5.out.trans ((KeepsOthers.setCell W5 _ _).from _), rfl, HRL2.out, HRW.out.set 0 _, HI5.out.below.setCell (by show w.heap.size ≤ w.heap.size + 1 + 1; omega) _⟩
    · have HRL2 := Lib.hid (HRL.out mo)
      rw [if_neg (by omega), Int.toNat_natCast, ← HPR.out] at HRL2
      have g0 : decide ((fr : Int) < 0) = false := decide_eq_false (by omega)
      gi_upto_region 9 with (fail)
      gi_loopg [9, 10, 23] W (fun gg nv _ ctr wr => ∃ k : Nat, k ≤ W ∧ gg = W - k ∧ ctr = .int .i64 k ∧ ∃ st : Nat × Nat, st = scanF row vb fr k (0, mo) ∧ nv = .int .i64 (st.1 : Int) ∧ LongI w w4 wr w0.heap.size st.2 ∧ KeepsFrom w4.heap.size W' wr ∧ KB w3.heap.size W' wr)
      case atStart => exact ⟨0, Nat.zero_le _, rfl, rfl, (0, mo), rfl, rfl, HI5.out, HK5.out, HKB5.out⟩
      case round =>
        clear HI5 HK5 HKB5
        obtain ⟨k, hk, rfl, rfl, st, hst, rfl, hi, hkf, hkb⟩ := hrel
        have HST := Lib.hid hst
        have HI := Lib.hid hi
        have HK := Lib.hid hkf
        have HKB := Lib.hid hkb
        clear hst hkf hkb
        have hsc := scan_le row vb fr (0, mo) k
        rw [← HST.out] at hsc
        obtain ⟨sn, sm⟩ := st
        dsimp only at *
        by_cases hlk : k < W
        · have HSN : Hid (scanF row vb fr (k + 1) (0, mo) = if row.getD ((fr + k) % W) false = vb then (sn + 1, max sm (sn + 1)) else (0, sm)) := by
            show _ = _
            conv => lhs; unfold scanF
            rw [← HST.out, HRWL.out]
          have hxx : (fr + k) % W < W := Nat.mod_lt _ (by omega)
          have hbl : yw + (fr + k) % W < bs.length := by omega
          have c0 : wr.cell? ⟨rb, ro + yw + (fr + k) % W, none⟩ = some (.bool (row.getD ((fr + k) % W) false)) := by
            have h3 := HRG.out _ hxx
            have h4 := HRC.out (yw + (fr + k) % W) (.bool bs[yw + (fr + k) % W]) (by rw [List.getElem?_map, List.getElem?_eq_getElem hbl]; rfl)
            rw [List.getD_eq_getElem?_getD, h3, List.getElem?_eq_getElem hbl, Nat.add_assoc]
            exact (World.cell?_of_block (a := ⟨rb, ro + (yw + (fr + k) % W), none⟩) (hi.below.block rb (HSS.out rb HRB.out))).trans h4
          have hv5 := HV4.out.of_eq (hi.old _ HV4.out.lt (by have := HSZ.out; omega))
          have v0 := hv5.cell (k := 0) rfl
          have m0 := hi.most.cell (k := 0) rfl
          have mf := hi.most.free 0
          have HT : Hid (((fr + k : Nat) : Int).tmod (W : Int) = (((fr + k) % W : Nat) : Int)) := by show _ = _; rw [Int.tmod_eq_emod_of_nonneg (by omega)]; simp
          have HW1 : Hid (wrap64 ((fr : Int) + (k : Int)) = ((fr + k : Nat) : Int) ∧ IntKind.i64.wrap ((fr : Int) + (k : Int)) = ((fr + k : Nat) : Int)) := by
            show _ ∧ _
            rw [← Int.natCast_add]
            exact ⟨IntWalk.wrap64_in _ (by omega), IntWalk.i64_in _ (by omega)⟩
          clear hi hv5 hbl
          generalize (fr + k) % W = ixx at *
          generalize row.getD ixx false = bt at *
          have hW0 : ¬ (W : Int) = 0 := by omega
          have hW0' : ¬ W = 0 := by omega
          have hxi : (ixx : Int) < (W : Int) := by omega
          have hqn : (fr + k) ≤ 1000 := by omega
          generalize fr + k = qq at *
          have HCC := Lib.hid c0
          have HS0 : Hid (wr.drew.cell? ⟨rb, ro + yw + ixx, none⟩ = some (.bool bt) ∧ wr.drew.cell? ⟨w.heap.size + 1, 0, none⟩ = some (.bool vb) ∧ wr.drew = wr.drew) := ⟨c0, v0, rfl⟩
          clear c0 v0
          have hw1 := HW1.out.1
          have hw2 := HW1.out.2
          have ht := HT.out
          gi_upto_region 11 with (fail)
          refine wpIn_region_seq (fun w' => w'.cell? ⟨rb, ro + yw + ixx, none⟩ = some (.bool bt) ∧ w'.cell? ⟨w.heap.size + 1, 0, none⟩ = some (.bool vb) ∧ w' = wr.drew) (by kernel_rfl) (by kernel_rfl) (by kernel_rfl) HS0.out ?_
          show Seq _ _ _ _ [_, _, _, _, _, _, _, _, _, _, _] _
          repeat (first
            | (refine seq_skip (by rfl) ?_; (try simp only [Act.put, List.setIfInBounds_toArray, List.set_cons_zero, List.set_cons_succ]))
            | (refine seq_val ?_ (by rfl) ?_ ?_
               rotate_left 1
               · rintro w6 ⟨s1, s2, hw6⟩; clear hw6; go_simp; first | done | with_reducible rfl
               (try simp only [Act.put, List.setIfInBounds_toArray, List.set_cons_zero, List.set_cons_succ])))
          refine seq_end ?_
          rintro w6 ⟨_, _, rfl⟩
          clear hw1 hw2 ht
          have HID := Lib.hid (HI.out.dN 1)
          have HKD : Hid (KeepsFrom w4.heap.size W' wr.drew) := HK.out.trans (keeps_dN w4.heap.size wr 1)
          have HKBD : Hid (KB w3.heap.size W' wr.drew) := HKB.out
          by_cases he : bt = vb
          · rw [if_pos he] at HSN
            rw [show (!(bt == vb)) = false by simp [he]]
            clear he
            by_cases hm : sm ≤ sn + 1
            · have HMX : Hid (max sm (sn + 1) = sn + 1) := Nat.max_eq_right hm
              have HI2 := Lib.hid (HID.out.set (by have := HSZ.out; omega) (sn + 1))
              have HK2 := Lib.hid (HKD.out.trans ((KeepsOthers.setCell wr.drew ⟨w0.heap.size, 0, none⟩ (.int .i64 ((sn + 1 : Nat) : Int))).from w4.heap.size))
              have HKB2 : Hid (KB w3.heap.size W' (wr.drew.setCell ⟨w0.heap.size, 0, none⟩ (.int .i64 ((sn + 1 : Nat) : Int)))) := KB.trans HKBD.out (Below.heap_setCell _ _ _ _ (by show w3.heap.size ≠ w0.heap.size; have := HSZ.out; omega))
              have hmi : (sm : Int) ≤ (sn : Int) + 1 := by omega
              gi_wp2
              · go_roundg (W - (k + 1))
                case measure => omega
                case rel => exact ⟨k + 1, by omega, rfl, by go_num, (sn + 1, sn + 1), by rw [HSN.out, HMX.out], rfl, HI2.out, HK2.out, HKB2.out⟩
              · obtain rfl : sm = sn + 1 := by omega
                go_roundg (W - (k + 1))
                case measure => omega
                case rel => exact ⟨k + 1, by omega, rfl, by go_num, (sn + 1, sn + 1), by rw [HSN.out, HMX.out], rfl, HI2.out, HK2.out, HKB2.out⟩
            · have HMX : Hid (max sm (sn + 1) = sm) := Nat.max_eq_left (by omega)
              have HI2 := Lib.hid (HID.out.set (by have := HSZ.out; omega) sm)
              have HK2 := Lib.hid (HKD.out.trans ((KeepsOthers.setCell wr.drew ⟨w0.heap.size, 0, none⟩ (.int .i64 (sm : Int))).from w4.heap.size))
              have HKB2 : Hid (KB w3.heap.size W' (wr.drew.setCell ⟨w0.heap.size, 0, none⟩ (.int .i64 (sm : Int)))) := KB.trans HKBD.out (Below.heap_setCell _ _ _ _ (by show w3.heap.size ≠ w0.heap.size; have := HSZ.out; omega))
              have hmi : ¬ (sm : Int) ≤ (sn : Int) + 1 := by omega
              have hmi2 : (sn : Int) + 1 ≤ (sm : Int) := by omega
              gi_wp2
              go_roundg (W - (k + 1))
              case measure => omega
              case rel => exact ⟨k + 1, by omega, rfl, by go_num, (sn + 1, sm), by rw [HSN.out, HMX.out], rfl, HI2.out, HK2.out, HKB2.out⟩
          · rw [if_neg he] at HSN
            rw [show (!(bt == vb)) = true by simp [he]]
            clear he
            gi_wp2
            go_roundg (W - (k + 1))
            case measure => omega
            case rel => exact ⟨k + 1, by omega, rfl, by go_num, (0, sm), by rw [HSN.out], rfl, HID.out, HKD.out, HKBD.out⟩
        · obtain rfl : k = W := by omega
          clear hi
          gi_wp2
          rw [← HST.out] at HRL2
          exact ⟨HK.out, HKB.out, sm, by omega, HRL2.out, HI.out⟩
  case done =>
    rintro D ys W' hD ⟨hl, hup⟩ ⟨mo, hmo, hlm, hi⟩ hK
    have HYS : Hid (ys.map Subtype.val = List.range H) := Eq.trans hup (congrArg List.range hl)
    rw [HYS.out] at hlm
    have HE : Hid (longF ⟨W, H, bs⟩ vb = (mo : Int)) := by show _ = _; unfold longF; dsimp only; rw [hlm]
    have HI := Lib.hid hi
    have HKD := Lib.hid hK
    have hr := HR4.out.of_eq (hi.old _ HR4.out.lt (by have := HSZ.out; omega))
    have HRW := Lib.hid hr
    have m0 := hi.most.cell (k := 0) rfl
    have r0 := hr.cell (k := 0) rfl
    have f0 := hr.free 0
    clear hl hup hi hK hr hlm
    gi_wp2
    have HQ := Lib.hid (HRW.out.set 0 (.int .i64 (mo : Int)))
    have HB9 := Lib.hid (HI.out.below.setCell (p := ⟨w.heap.size + 1 + 1, 0, none⟩) (by show w.heap.size ≤ w.heap.size + 1 + 1; omega) (.int .i64 (mo : Int)))
    have HKE : Hid ((W'.setCell ⟨w.heap.size + 1 + 1, 0, none⟩ (.int .i64 (mo : Int))).heap[D]? = some (.deferred (some []))) := (KeepsOthers.setCell W' _ _).same D _ HKD.out rfl
    refine ⟨by simp, .inl ⟨_, _, rfl, run_takeDeferred HKE.out, ?_⟩⟩
    have hgr := grownBy_putObj' (W'.setCell ⟨w.heap.size + 1 + 1, 0, none⟩ (.int .i64 (mo : Int))) D (.deferred none)
    have HQ9 := Lib.hid (HQ.out.grown hgr (by have := HSZ.out; simp; omega))
    have HBZ := Lib.hid (HB9.out.grown hgr HB9.out.size (fun k e => by cases e; have := HSZ.out; omega))
    generalize World.putObj (W'.setCell ⟨w.heap.size + 1 + 1, 0, none⟩ (.int .i64 (mo : Int))) D (.deferred none) = w9 at *
    have q0 := HQ9.out.cell (k := 0) rfl
    exact ⟨.int .i64 (mo : Int), by simp [results, Tryd.results58, go_sem, q0], by rw [HE.out], HBZ.out⟩
  case stop =>
    rintro D cc pre W' hD hup ⟨rfl, hlm, ha, hb⟩ hK
    have HE : Hid (longF ⟨W, H, bs⟩ vb = 65) := by
      show _ = _
      have hle := upR_le hup
      have e1 : List.range H = pre.map Subtype.val ++ (List.range (H - pre.length)).map (pre.length + ·) := by
        rw [show pre.map Subtype.val = List.range pre.length from hup, ← List.range_add, Nat.add_sub_cancel' hle]
      unfold longF
      dsimp only
      rw [e1, List.map_append, lmF_none hlm]
    gi_wp2
    refine ⟨by simp, .inl ⟨_, _, rfl, run_takeDeferred hK, ?_⟩⟩
    have hgr := grownBy_putObj' W' D (.deferred none)
    have HQ9 := Lib.hid (ha.grown hgr (by have := HSZ.out; simp; omega))
    have HBZ := Lib.hid (hb.grown hgr hb.size (fun k e => by cases e; have := HSZ.out; omega))
    generalize World.putObj W' D (.deferred none) = w9 at *
    have q0 := HQ9.out.cell (k := 0) rfl
    exact ⟨.int .i64 65, by simp [results, Tryd.results58, go_sem, q0], by rw [HE.out], HBZ.out⟩
end Go.Proofs.YtmmakljmikdooaaDoor
