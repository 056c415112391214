/- Texts of the seat, put together: GroupWalkC, TruthWalk1. -/
import Derived.Test.YtmmakljmikdooaaDoorTw9
import Derived.Test.YtmmakljmikdooaaDoorTw1
/- Chapter 3: the program's Domain, walked: it answers. -/
namespace Go.Proofs.YtmmakljmikdooaaDoor
open Go.RowKit
set_option linter.unusedVariables false
set_option linter.unusedSimpArgs false

set_option maxRecDepth 100000 in
set_option maxHeartbeats 4000000 in
theorem Domain_any {S : Nat → Prop} {v : Value} {c : Ch} {W H : Nat} (w : World) (hv : ChR w S v c) (hS : ∀ b, S b → b < w.heap.size) (hc : OkC c W H) (hT : tor W H ≤ 24) :
    Calls Tryd.prog 16 #[v] w fun e w' => Below w.heap.size w w' ∧ ∃ A m k, m ≤ 1000 ∧ e = .returned (.tuple #[.slice A m k, .int .i64 0]) := by
  have HV := Lib.hid hv
  have HSS := Lib.hid hS
  have HOK := Lib.hid hc
  obtain ⟨A, k, rfl⟩ := hv.form
  clear hS hc hv
  have HX := Lib.hid (Arr.new w #[.int .i64 c.g, .int .i64 c.w, .int .i64 c.h, .slice A c.cs.length k] 24)
  have HB0 := Lib.hid (al1 w (.cells #[.int .i64 c.g, .int .i64 c.w, .int .i64 c.h, .slice A c.cs.length k] 24))
  go_enter Tryd.func16, Tryd.ntmps16
  go_upto_region 1 with fail
  generalize w.alloc (.cells #[.int .i64 c.g, .int .i64 c.w, .int .i64 c.h, .slice A c.cs.length k] 24) = w0 at *
  have x0 := HX.out.cell (k := 0) rfl
  have x1 := HX.out.cell (k := 1) rfl
  have x2 := HX.out.cell (k := 2) rfl
  have x3 := HX.out.cell (k := 3) rfl
  go_wp2_with fail
  refine (laid_any w0 (HV.out.same fun b hb => HB0.out.block b (HSS.out b hb)) (fun b hb => Nat.lt_of_lt_of_le (HSS.out b hb) HB0.out.size) HOK.out).mono ?_
  rintro e w1 ⟨hb1, (⟨hT2, rfl⟩ | ⟨hT2, u, rfl, hu⟩)⟩
  · omega
  have HB1 := Lib.hid (HB0.out.trans (hb1.mono HB0.out.size))
  have HU := Lib.hid hu
  obtain ⟨A2, c2, rfl⟩ := hu.form
  clear hb1 x0 x1 x2 x3 hu hT2
  have HG : Hid (c.g = 4 ∨ c.g = 6) := HOK.out.g
  have hn1 := tor_pos HOK.out.W1 HOK.out.H1
  generalize layF W H c.cs (tor W H) = f at *
  generalize tor W H = n at *
  generalize c.g = g at *
  have hnn : n * n ≤ 24 * 24 := Nat.mul_le_mul hT hT
  generalize hN : n * n = N at *
  have HZ := Lib.hid (Arr.new w1 #[.int .i64 g, .int .i64 (n : Int), .slice A2 (N) c2] 92)
  have HB2 := Lib.hid (al1 w1 (.cells #[.int .i64 g, .int .i64 (n : Int), .slice A2 (N) c2] 92))
  have hz := HZ.out
  go_upto_region 2 with fail
  generalize w1.alloc (.cells #[.int .i64 g, .int .i64 (n : Int), .slice A2 (N) c2] 92) = w2 at *
  have z0 := hz.cell (k := 0) rfl
  have z1 := hz.cell (k := 1) rfl
  have z2 := hz.cell (k := 2) rfl
  clear hz
  have mk1 := fun w => run_mk T30b (N) (N) (Nat.le_refl _) (by omega) w
  have hmc : madeCells (Value.bool false).cells (N * 1) = madeCells #[.bool false] (N) := by rw [Nat.mul_one]; rfl
  go_upto_region 6 with fail
  clear mk1 hmc
  have HSN := Lib.hid (Arr.new w2 (madeCells #[.bool false] (N)) 4)
  rw [toList_madeCells_one] at HSN
  have HB3 := Lib.hid (al1 w2 (.cells (madeCells #[.bool false] (N)) 4))
  generalize w2.alloc (.cells (madeCells #[.bool false] (N)) 4) = w3 at *
  have hz := HZ.out.of_eq (HB3.out.block _ HZ.out.lt)
  have HZ3 := Lib.hid hz
  clear z0 z1 z2
  have z0 := hz.cell (k := 0) rfl
  have z1 := hz.cell (k := 1) rfl
  have z2 := hz.cell (k := 2) rfl
  clear hz
  have HU3 := Lib.hid ((HU.out.same (w' := w2) fun b hb => HB2.out.block b hb.2).same (w' := w3) fun b hb => HB3.out.block b (Nat.lt_of_lt_of_le hb.2 HB2.out.size))
  go_wp2_with fail
  refine (all_any w3 HU3.out (fun b hb => Nat.lt_of_lt_of_le hb.2 (Nat.le_trans HB2.out.size HB3.out.size)) HG.out hn1 hT).mono ?_
  rintro e w5 ⟨mv, rfl, hr, hb5⟩
  obtain ⟨A3, c3, rfl, r1, r2⟩ := own_form hr
  have HMR := Lib.hid (Row.of_own hr)
  have hmv : ∀ m ∈ allL g n f, (m.t : Int) < g ∧ m.b.le 24 := fun m hm => by
    obtain ⟨h1, p, h2, h3, _⟩ := allL_mem hm
    refine ⟨by omega, ?_⟩
    rw [h3]
    exact pt_le hT h2
  have HMV := Lib.hid hmv
  clear hmv
  generalize allL g n f = L at *
  have hb25 := HB3.out.trans (hb5.mono HB3.out.size)
  have HLT : Hid (w.heap.size ≤ w2.heap.size ∧ w2.heap.size < w5.heap.size ∧ w1.heap.size < w2.heap.size ∧ w.heap.size ≤ w1.heap.size ∧ w2.heap.size < w3.heap.size) :=
    ⟨Nat.le_trans HB1.out.size HB2.out.size, Nat.lt_of_lt_of_le HSN.out.lt hb5.size, HZ.out.lt, HB1.out.size, HSN.out.lt⟩
  have HDS : Hid (DomS w w5 w5 w2.heap.size (N)) := ⟨⟨List.replicate (N) false, by simp, by rw [List.map_replicate]; exact HSN.out.of_eq (hb5.block _ HSN.out.lt)⟩, fun _ _ _ => rfl, Nat.le_refl _, HB1.out.trans ((HB2.out.trans (hb25.mono HB2.out.size)).mono HB1.out.size)⟩
  have HZ5 := Lib.hid (HZ3.out.of_eq (hb5.block _ HZ3.out.lt))
  clear z0 z1 z2 hr hb5 hb25
  have HZW : Hid (∀ wr : World, DomS w w5 wr w2.heap.size (N) → Arr wr w1.heap.size 92 [.int .i64 g, .int .i64 (n : Int), .slice A2 (N) c2]) := fun wr hd =>
    HZ5.out.of_eq (hd.old _ (by have := HLT.out; omega) (by have := HLT.out; omega))
  unfold maxLen at r2
  go_upto_region 7 with fail
  go_wp2_with fail
  go_loopg [6, 31] N (fun gg ov ctr wr => ∃ p : Nat, p ≤ N ∧ gg = N - p ∧ ctr = .int .i64 p ∧ DomS w w5 wr w2.heap.size N ∧ ∃ (m : Nat) (xs : List Value), m ≤ p ∧ wr.ownsRow w5.heap.size 78 2 ov m xs)
  case atStart => exact ⟨0, Nat.zero_le _, rfl, rfl, HDS.out, 0, [], Nat.le_refl _, World.ownsRow_nil _ _ _ _⟩
  case round =>
    clear HDS
    obtain ⟨p, hp, rfl, rfl, hd, m, xs, hm, ho⟩ := hrel
    have HD := Lib.hid hd
    have HO := Lib.hid ho
    clear hd ho
    by_cases hlp : p < N
    · obtain ⟨bits, hl, ha⟩ := HD.out.seen
      obtain ⟨bt, hbt⟩ : ∃ bt : Bool, (bits.map Value.bool)[p]? = some (.bool bt) := by
        refine ⟨bits[p], ?_⟩
        rw [List.getElem?_map, List.getElem?_eq_getElem (by omega)]
        rfl
      have c0 := ha.cell hbt
      have hz := HZW.out _ HD.out
      have z0 := hz.cell (k := 0) rfl
      have z1 := hz.cell (k := 1) rfl
      have z2 := hz.cell (k := 2) rfl
      have hlo := hz.lt
      clear hl ha hbt hz
      rcases bt with _ | _
      · have hn0 : ¬ (n : Int) = 0 := by omega
        have hn0' : ¬ n = 0 := by omega
        have htm : (p : Int).tmod (n : Int) = ((p % n : Nat) : Int) := by rw [Int.tmod_eq_emod_of_nonneg (by omega)]; simp
        have htd : (p : Int).tdiv (n : Int) = ((p / n : Nat) : Int) := by rw [Int.tdiv_eq_ediv_of_nonneg (by omega)]; simp
        have hm1 : p % n < n := Nat.mod_lt _ (by omega)
        have hm2 : p / n ≤ p := Nat.div_le_self _ _
        go_upto_region 11 with fail
        go_region
        go_upto_region 12 with fail
        obtain ⟨a1, a2, e1, e2, hpt, ha1, ha2, ha3, ha4⟩ := pt_parts hn1 hT (by rw [hN]; exact hlp)
        rw [e1, e2]
        have HPT0 := Lib.hid hpt
        clear e1 e2 hpt htm htd hm1 hm2
        rename World => w6
        have hd : Below w6.heap.size w6 (w6.alloc (Obj.cells #[Value.int IntKind.i64 a1, Value.int IntKind.i64 a2] 78)).drew := below_dN (n := 1) (al1 w6 _)
        have HPZ := Lib.hid ((Arr.new w6 #[Value.int IntKind.i64 a1, Value.int IntKind.i64 a2] 78).dN 1)
        generalize hw7 : (w6.alloc (Obj.cells #[Value.int IntKind.i64 a1, Value.int IntKind.i64 a2] 78)).drew = w7 at *
        have HPZ7 : Hid (Arr w7 w6.heap.size 78 [.int .i64 a1, .int .i64 a2]) := by rw [← hw7]; exact HPZ.out
        clear HPZ hw7
        have hl5 := HLT.out.2.1
        have HL6 := Lib.hid HD.out.size
        have HD7 := Lib.hid (HD.out.call hl5 hd)
        have HO7 := Lib.hid (own_below HO.out hd (Nat.le_refl _))
        have hp0 := HPZ7.out.cell (k := 0) rfl
        have hp1 := HPZ7.out.cell (k := 1) rfl
        have hl7 := HD7.out.size
        have HPN : Hid (u6.ownBlock ≠ some w6.heap.size) := fun e => by have := (HO.out.lt _ e).2; omega
        clear hd z0 z1 z2 c0 HD HO
        go_upto_region 13 with (at_builtin
                                refine app_el T59p [.int .i64 a1, .int .i64 a2] HO7.out (Below.refl _ w7) hl7 rfl rfl rfl rfl rfl (by simp [Value.oneCell']) (by omega) ?_
                                intro v1 w8 hown1 hb1 hg1 ho1)
        have HO8 := Lib.hid hown1
        have hrow : ∀ k, u6.ownBlock = some k → w5.heap.size ≤ k := fun k hk => (HO7.out.lt k hk).1
        have HD8 := Lib.hid (HD7.out.grown hl5 hg1 hrow (by have := HLT.out; omega))
        have HPZ8 := Lib.hid (HPZ7.out.grown hg1 HPN.out)
        clear hown1 hb1 hg1 ho1 hp0 hp1 hl7 hrow HPN HPZ7 HO7 HD7
        go_wp2_with fail
        have HZ1 : Hid (pt n p = ⟨a1, a2⟩) := HPT0.out
        have hpl : (⟨a1, a2⟩ : Pt).le 24 := by unfold Pt.le; dsimp only; omega
        go_loopg [53] L.length (fun gg ctr w9 => ∃ j : Nat, j ≤ L.length ∧ gg = L.length - j ∧ ctr = .int .i64 j ∧ DomS w w5 w9 w2.heap.size N ∧ w9.ownsRow w5.heap.size 78 2 v1 (m + 1) (xs ++ [.int .i64 a1, .int .i64 a2]) ∧ Arr w9 w6.heap.size 78 [.int .i64 a1, .int .i64 a2])
        case atStart => exact ⟨0, Nat.zero_le _, rfl, rfl, HD8.out, HO8.out, HPZ8.out⟩
        case round =>
          clear HD8 HO8 HPZ8
          obtain ⟨j, hj, rfl, rfl, hd, ho, hpz⟩ := hrel
          have HD := Lib.hid hd
          have HO := Lib.hid ho
          have HPZ := Lib.hid hpz
          clear hd ho hpz
          by_cases hlj : j < L.length
          · rename World => w9
            have hrr := HMR.out.same (w' := w9) fun b hb => HD.out.old b hb.2 (by have := HLT.out; have := hb.1; omega)
            obtain ⟨bm, om, rfl, _, hcm⟩ := els_at (f := Mv.cells) (fun _ => rfl) hrr (by decide) hlj
            have m0 : w9.cell? ⟨bm, om + j * 4, none⟩ = some (.int .i64 (L[j].t : Int)) := hcm 0 _ rfl
            have m1 : w9.cell? ⟨bm, om + j * 4 + 1, none⟩ = some (.bool L[j].f) := hcm 1 _ rfl
            have m2 : w9.cell? ⟨bm, om + j * 4 + 2, none⟩ = some (.int .i64 L[j].b.x) := hcm 2 _ rfl
            have m3 : w9.cell? ⟨bm, om + j * 4 + 3, none⟩ = some (.int .i64 L[j].b.y) := hcm 3 _ rfl
            obtain ⟨mt, mb⟩ := HMV.out L[j] (List.getElem_mem _)
            clear hcm hrr
            generalize L[j] = mo at *
            obtain ⟨t, fl, ⟨bx, by'⟩⟩ := mo
            dsimp only at m0 m1 m2 m3 mt mb
            have HAP : Hid (∀ w, Calls Tryd.prog 31 #[.int .i64 g, .agg #[.int .i64 (t : Int), .bool fl, .int .i64 bx, .int .i64 by'], .agg #[.int .i64 a1, .int .i64 a2]] w fun e w' => ∃ q : Pt, e = .returned (.tuple #[.agg #[.int .i64 q.x, .int .i64 q.y], .int .i64 0]) ∧ Below w.heap.size w w') := fun w => by
              have hb := (Bnd.lin t fl (Bnd.of (g := g) hpl)).1
              refine (Apply_any g HG.out ⟨t, fl, ⟨bx, by'⟩⟩ ⟨a1, a2⟩ w (by unfold Pt.le at *; dsimp only at *; omega) mt (by unfold Pt.le at *; dsimp only at *; omega) (by unfold app Pt.le at *; dsimp only at *; omega)).mono ?_
              rintro e w' ⟨rfl, hb'⟩
              exact ⟨_, rfl, hb'⟩
            clear mt mb
            go_upto_region 16 with fail
            have HMB := Lib.hid (Arr.new w9 #[.int .i64 (t : Int), .bool fl, .int .i64 bx, .int .i64 by'] 98)
            have hd := al1 w9 (.cells #[.int .i64 (t : Int), .bool fl, .int .i64 bx, .int .i64 by'] 98)
            generalize w9.alloc (.cells #[.int .i64 (t : Int), .bool fl, .int .i64 bx, .int .i64 by'] 98) = wA at *
            have hl5 := HLT.out.2.1
            have HDA := Lib.hid (HD.out.call hl5 hd)
            have HOA := Lib.hid (own_below HO.out hd (Nat.le_refl _))
            have HPA := Lib.hid (HPZ.out.of_eq (hd.block _ HPZ.out.lt))
            clear hd m0 m1 m2 m3 HD HO HPZ
            have m0 := HMB.out.cell (k := 0) rfl
            have m1 := HMB.out.cell (k := 1) rfl
            have m2 := HMB.out.cell (k := 2) rfl
            have m3 := HMB.out.cell (k := 3) rfl
            have p0 := HPA.out.cell (k := 0) rfl
            have p1 := HPA.out.cell (k := 1) rfl
            have hz := HZW.out _ HDA.out
            have z0 := hz.cell (k := 0) rfl
            clear hz
            go_wp2_with fail
            refine (HAP.out _).mono ?_
            rintro e wB ⟨q, rfl, hbB⟩
            have HDB := Lib.hid (HDA.out.call hl5 hbB)
            have HOB := Lib.hid (own_below HOA.out hbB (Nat.le_refl _))
            have HPB := Lib.hid (HPA.out.of_eq (hbB.block _ HPA.out.lt))
            clear hbB m0 m1 m2 m3 p0 p1 z0 HDA HOA HPA
            have HQB := Lib.hid (Arr.new wB #[.int .i64 q.x, .int .i64 q.y] 78)
            have hd := al1 wB (.cells #[.int .i64 q.x, .int .i64 q.y] 78)
            go_upto_region 17 with fail
            generalize wB.alloc (.cells #[.int .i64 q.x, .int .i64 q.y] 78) = wC at *
            have HDC := Lib.hid (HDB.out.call hl5 hd)
            have HOC := Lib.hid (own_below HOB.out hd (Nat.le_refl _))
            have HPC := Lib.hid (HPB.out.of_eq (hd.block _ HPB.out.lt))
            clear hd HDB HOB HPB
            have q0 := HQB.out.cell (k := 0) rfl
            have q1 := HQB.out.cell (k := 1) rfl
            have hz := HZW.out _ HDC.out
            have z0 := hz.cell (k := 0) rfl
            have z1 := hz.cell (k := 1) rfl
            have z2 := hz.cell (k := 2) rfl
            clear hz
            go_wp2_with fail
            refine (place_any g n A2 N c2 q wC hn1 hT).mono ?_
            rintro e wD ⟨rfl, hbD⟩
            have HDD := Lib.hid (HDC.out.call hl5 hbD)
            have HOD := Lib.hid (own_below HOC.out hbD (Nat.le_refl _))
            have HPD := Lib.hid (HPC.out.of_eq (hbD.block _ HPC.out.lt))
            clear hbD q0 q1 z0 z1 z2 HDC HOC HPC
            have hql := pl_lt hn1 q
            rw [hN] at hql
            generalize pl n q = r at *
            obtain ⟨bits2, hl2, ha2⟩ := HDD.out.seen
            obtain ⟨bt, hbit⟩ : ∃ bt : Bool, (bits2.map Value.bool)[r]? = some (.bool bt) := by
              refine ⟨bits2[r], ?_⟩
              rw [List.getElem?_map, List.getElem?_eq_getElem (by omega)]
              rfl
            have s0 := ha2.cell hbit
            have s1 := ha2.free r
            clear hbit hl2 ha2
            have HDE := Lib.hid (HDD.out.set (q := r) HLT.out.1)
            have HOE := Lib.hid (own_kept_lt HOD.out (grownBy_set wD w2.heap.size r (.bool true)) hl5)
            have HPE : Hid (Arr (wD.setCell ⟨w2.heap.size, r, none⟩ (.bool true)) w6.heap.size 78 [.int .i64 a1, .int .i64 a2]) := HPD.out.far (by show w6.heap.size ≠ w2.heap.size; have := HL6.out; have := HLT.out; omega) _
            have hrl : (r : Int) < (N : Int) := by omega
            go_wp2_with fail
            go_roundg (L.length - (j + 1))
            case measure => omega
            case rel => exact ⟨j + 1, by omega, rfl, by go_num, HDE.out, HOE.out, HPE.out⟩
          · obtain rfl : j = L.length := by omega
            go_wp2_with fail
            go_roundg (N - (p + 1))
            case measure => omega
            case rel => exact ⟨p + 1, by omega, rfl, by go_num, HD.out, m + 1, _, by omega, HO.out⟩
      · go_wp2_with fail
        go_roundg (N - (p + 1))
        case measure => omega
        case rel => exact ⟨p + 1, by omega, rfl, by go_num, HD.out, m, xs, by omega, HO.out⟩
    · obtain rfl : p = N := by omega
      obtain ⟨A6, c6, rfl, r5, r6⟩ := own_form HO.out
      go_wp2_with fail
      go_ret2
      exact ⟨HD.out.below, A6, m, c6, by omega, rfl⟩
end Go.Proofs.YtmmakljmikdooaaDoor
/- Chapter 5: the program's Wrong, blank. -/
namespace Go.Proofs.YtmmakljmikdooaaDoor
open Go.RowKit
set_option linter.unusedVariables false
set_option linter.unusedSimpArgs false

set_option maxRecDepth 100000 in
theorem tWrong_any {S : Nat → Prop} {v : Value} {m : Tr} (w : World) (hv : TrR w S v m) (hm : OkT m) :
    Calls Tryd.prog 59 #[v] w fun e w' => e = .returned (.int .i64 0) ∧ Below w.heap.size w w' := by
  obtain ⟨A, c, rfl, h1, h2, _⟩ := hv.form
  have hl := hm.len
  have b1 := hm.W1
  have b2 := hm.W2
  have b3 := hm.H1
  have b4 := hm.H2
  obtain ⟨W, H, bs⟩ := m
  dsimp only at *
  have HX := Lib.hid (Arr.new w #[.int .i64 (W : Int), .int .i64 (H : Int), .slice A bs.length c] 32)
  have HB0 := Lib.hid (al1 w (.cells #[.int .i64 (W : Int), .int .i64 (H : Int), .slice A bs.length c] 32))
  unfold maxLen at h2
  have hmul : W * H ≤ 64 * 64 := Nat.mul_le_mul b2 b4
  have hww : wrap64 ((W : Int) * (H : Int)) = ((W * H : Nat) : Int) := by rw [← Int.natCast_mul]; exact IntWalk.wrap64_in _ (by omega)
  have hw2 : IntKind.i64.wrap ((W : Int) * (H : Int)) = ((W * H : Nat) : Int) := by rw [← Int.natCast_mul]; exact IntWalk.i64_in _ (by omega)
  have g1 : decide ((W : Int) < 0) = false := decide_eq_false (by omega)
  have g2 : decide ((W : Int) > 64) = false := decide_eq_false (by omega)
  have g3 : decide ((H : Int) < 0) = false := decide_eq_false (by omega)
  have g4 : decide ((H : Int) > 64) = false := decide_eq_false (by omega)
  generalize W * H = P at *
  have g5 : ((bs.length : Int) != (P : Int)) = false := by simp; omega
  clear hl
  go_enter Tryd.func59, Tryd.ntmps59
  go_upto_region 1 with fail
  generalize w.alloc (.cells #[.int .i64 (W : Int), .int .i64 (H : Int), .slice A bs.length c] 32) = w0 at *
  have x0 := HX.out.cell (k := 0) rfl
  have x1 := HX.out.cell (k := 1) rfl
  have x2 := HX.out.cell (k := 2) rfl
  go_wp2_with fail
  go_ret
  exact ⟨rfl, HB0.out⟩
set_option maxRecDepth 100000 in
theorem blank_any (W H : Nat) (w : World) (b1 : 1 ≤ W) (b2 : W ≤ 64) (b3 : 1 ≤ H) (b4 : H ≤ 64) :
    Calls Tryd.prog 73 #[.int .i64 (W : Int), .int .i64 (H : Int)] w fun e w' => ∃ g, w.heap.size ≤ g ∧ e = .returned (.agg #[.int .i64 (W : Int), .int .i64 (H : Int), .slice (some ⟨g, 0, none⟩) (W * H) (W * H)]) ∧ Arr w' g 4 (List.replicate (W * H) (.bool false)) ∧ Below w.heap.size w w' := by
  have hmul : W * H ≤ 64 * 64 := Nat.mul_le_mul b2 b4
  have mk1 := fun w => run_mk T30b (W * H) (W * H) (Nat.le_refl _) (by omega) w
  have hmc : madeCells (Value.bool false).cells (W * H * 1) = madeCells #[.bool false] (W * H) := by rw [Nat.mul_one]; rfl
  have hww : wrap64 ((W : Int) * (H : Int)) = ((W * H : Nat) : Int) := by rw [← Int.natCast_mul]; exact IntWalk.wrap64_in _ (by omega)
  have hw2 : IntKind.i64.wrap ((W : Int) * (H : Int)) = ((W * H : Nat) : Int) := by rw [← Int.natCast_mul]; exact IntWalk.i64_in _ (by omega)
  generalize hP : W * H = P at *
  have HR := Lib.hid ((Arr.new w #[.int .i64 0, .int .i64 0, .slice none 0 0] 32).alloc (.cells (madeCells #[.bool false] P) 4))
  have HB := Lib.hid (arr_new2 w (.cells #[.int .i64 0, .int .i64 0, .slice none 0 0] 32) (madeCells #[.bool false] P) 4)
  have HBW := Lib.hid (al2 w (.cells #[.int .i64 0, .int .i64 0, .slice none 0 0] 32) (.cells (madeCells #[.bool false] P) 4))
  rw [toList_madeCells_one] at HB
  have hl1 := HR.out.lt
  have r0 := HR.out.cell (k := 0) rfl
  have r1 := HR.out.cell (k := 1) rfl
  have r2 := HR.out.cell (k := 2) rfl
  have f0 := HR.out.free 0
  have f1 := HR.out.free 1
  have f2 := HR.out.free 2
  go_enter Tryd.func73, Tryd.ntmps73
  go_upto_region 1 with fail
  go_wp2_with fail
  have HQ := Lib.hid ((Arr.new w #[.int .i64 (W : Int), .int .i64 (H : Int), .slice (some ⟨w.heap.size + 1, 0, none⟩) P P] 32).alloc (.cells (madeCells #[.bool false] P) 4))
  have HB2 := Lib.hid (arr_new2 w (.cells #[.int .i64 (W : Int), .int .i64 (H : Int), .slice (some ⟨w.heap.size + 1, 0, none⟩) P P] 32) (madeCells #[.bool false] P) 4)
  rw [toList_madeCells_one] at HB2
  have HBZ := Lib.hid (al2 w (.cells #[.int .i64 (W : Int), .int .i64 (H : Int), .slice (some ⟨w.heap.size + 1, 0, none⟩) P P] 32) (.cells (madeCells #[.bool false] P) 4))
  have q0 := HQ.out.cell (k := 0) rfl
  have q1 := HQ.out.cell (k := 1) rfl
  have q2 := HQ.out.cell (k := 2) rfl
  refine bodyPost_ret (v := .agg #[.int .i64 (W : Int), .int .i64 (H : Int), .slice (some ⟨w.heap.size + 1, 0, none⟩) P P]) (by simp [results, Tryd.results73, go_sem, q0, q1, q2]) rfl ⟨w.heap.size + 1, Nat.le_succ _, rfl, ?_, ?_⟩
  · exact HB2.out
  · exact HBZ.out
end Go.Proofs.YtmmakljmikdooaaDoor
