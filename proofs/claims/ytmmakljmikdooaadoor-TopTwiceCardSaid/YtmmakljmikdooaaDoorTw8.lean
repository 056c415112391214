/- Texts of the seat, put together: GroupWalk8, GroupWalk9. -/
import Derived.Test.YtmmakljmikdooaaDoorTw7
/- Chapter 3: the program's all, walked. -/
namespace Go.Proofs.YtmmakljmikdooaaDoor
open Go.RowKit
set_option linter.unusedVariables false
set_option linter.unusedSimpArgs false

set_option maxRecDepth 100000 in
set_option maxHeartbeats 4000000 in
theorem all_any {S : Nat → Prop} {v : Value} {g : Int} {n : Nat} {f : Nat → Int} (w : World) (hv : ClR w S v g n f) (hS : ∀ b, S b → b < w.heap.size) (hg : g = 4 ∨ g = 6) (hn : 1 ≤ n) (hn2 : n ≤ 24) :
    Calls Tryd.prog 30 #[v] w fun e w' => ∃ u, e = .returned u ∧ w'.ownsRow w.heap.size 98 4 u (allL g n f).length ((allL g n f).flatMap Mv.cells) ∧ Below w.heap.size w w' := by
  obtain ⟨G, rfl⟩ : ∃ G : Nat, g = (G : Int) := ⟨g.toNat, by omega⟩
  have HV := Lib.hid hv
  have HSS := Lib.hid hS
  obtain ⟨cv, rfl, hc⟩ := hv
  obtain ⟨A, ca, rfl, h1, h2, hr⟩ := hc
  rw [List.length_map, List.length_range] at *
  clear hr hS
  have HX := Lib.hid (Arr.new w #[.int .i64 (G : Int), .int .i64 (n : Int), .slice A (n * n) ca] 92)
  have HB0 := Lib.hid (al1 w (.cells #[.int .i64 (G : Int), .int .i64 (n : Int), .slice A (n * n) ca] 92))
  go_enter Tryd.func30, Tryd.ntmps30
  go_upto_region 2 with fail
  generalize hw0 : w.alloc (.cells #[.int .i64 (G : Int), .int .i64 (n : Int), .slice A (n * n) ca] 92) = w0 at *
  have HS0 : Hid (w0.heap.size = w.heap.size + 1) := by show _ = _; rw [← hw0, World.size_alloc]
  clear hw0
  have HFL := Lib.hid (Arr.new w0 #[.bool false, .bool true] 4)
  have HB1 := Lib.hid (al1 w0 (.cells #[.bool false, .bool true] 4))
  go_wp2_with fail
  generalize hw1 : w0.alloc (.cells #[.bool false, .bool true] 4) = w1 at *
  have hG6 : G ≤ 6 := by omega
  have HAL : Hid (allL (G : Int) n f = turnL G n f false G ++ turnL G n f true G) := by show _ = _; unfold allL; simp
  have HSW : Hid (w1.heap.size = w.heap.size + 2) := by show _ = _; rw [← hw1, World.size_alloc, HS0.out]
  clear hw1
  have HV1 : Hid (Below w.heap.size w w1) := HB0.out.trans (HB1.out.mono HB0.out.size)
  have HX1 := Lib.hid (HX.out.of_eq (HB1.out.block _ HX.out.lt))
  go_loopg [3, 12] 2 (fun gg v ctr wr => ∃ j : Nat, j ≤ 2 ∧ gg = 2 - j ∧ ctr = .int .i64 j ∧ ∃ M : List Mv, M = (([false, true].take j).flatMap fun fl => turnL G n f fl G) ∧ wr.ownsRow w1.heap.size 98 4 v M.length (M.flatMap Mv.cells) ∧ Below w1.heap.size w1 wr)
  case atStart => exact ⟨0, Nat.zero_le _, rfl, rfl, [], rfl, World.ownsRow_nil _ _ _ _, Below.refl _ _⟩
  case round =>
    obtain ⟨j, hj, rfl, rfl, M, hM, ho, hb⟩ := hrel
    have HOW := Lib.hid ho
    have HBW := Lib.hid hb
    clear ho hb
    have hfl := HFL.out.of_eq (HBW.out.block _ (by have := HSW.out; have := HS0.out; omega))
    have hx := HX1.out.of_eq (HBW.out.block _ HX1.out.lt)
    have x0 := hx.cell (k := 0) rfl
    clear hx
    by_cases hlt : j < 2
    · obtain ⟨fl, htk, z0⟩ : ∃ fl : Bool, [false, true].take (j + 1) = [false, true].take j ++ [fl] ∧ wr.cell? ⟨w0.heap.size, j, none⟩ = some (.bool fl) := by
        have hj2 : j = 0 ∨ j = 1 := by omega
        rcases hj2 with rfl | rfl
        · exact ⟨false, rfl, hfl.cell (k := 0) rfl⟩
        · exact ⟨true, rfl, hfl.cell (k := 1) rfl⟩
      clear hfl
      have HTK := Lib.hid htk
      have HM := Lib.hid hM
      have hjj : (j : Int) < 2 := by omega
      clear htk hM
      go_wp2_with fail
      go_loopg [3, 18] G (fun gg v ctr w2 => ∃ t : Nat, t ≤ G ∧ gg = G - t ∧ ctr = .int .i64 t ∧ ∃ M2 : List Mv, M2 = M ++ turnL G n f fl t ∧ w2.ownsRow w1.heap.size 98 4 v M2.length (M2.flatMap Mv.cells) ∧ Below w1.heap.size w1 w2)
      case atStart => exact ⟨0, Nat.zero_le _, rfl, rfl, M, by simp [turnL], HOW.out, HBW.out⟩
      case round =>
        clear HOW HBW x0 z0
        obtain ⟨t, ht, rfl, rfl, M2, hM2, ho, hb⟩ := hrel
        have HOW := Lib.hid ho
        have HBW := Lib.hid hb
        have HM2 := Lib.hid hM2
        clear ho hb hM2
        by_cases hlt2 : t < G
        · rename World => w3
          have hbw := HV1.out.trans (HBW.out.mono HV1.out.size)
          have HVW := Lib.hid (HV.out.same (w' := w3) fun b hb => hbw.block b (HSS.out b hb))
          have HSS3 : Hid (∀ b, S b → b < w3.heap.size) := fun b hb => Nat.lt_of_lt_of_le (HSS.out b hb) hbw.size
          have hx := HX1.out.of_eq (HBW.out.block _ HX1.out.lt)
          have x0 := hx.cell (k := 0) rfl
          have x1 := hx.cell (k := 1) rfl
          have x2 := hx.cell (k := 2) rfl
          clear hbw hx
          go_upto_region 9 with fail
          refine (image_any t fl w3 HVW.out HSS3.out hg (by omega) hn hn2).mono ?_
          rintro e w5 ⟨u, rfl, hu, hb5⟩
          have HU := Lib.hid hu
          have HB5 := Lib.hid (HBW.out.trans (hb5.mono HBW.out.size))
          have HOW5 := Lib.hid (own_below HOW.out hb5 (Nat.le_refl _))
          have HVW5 := Lib.hid (HVW.out.same fun b hb => hb5.block b (HSS3.out b hb))
          clear hu hb5
          clear x0 x1 x2
          have hxn := HX1.out.of_eq (HB5.out.block _ HX1.out.lt)
          have x1 := hxn.cell (k := 1) rfl
          clear hxn
          have hnn : n * n ≤ 24 * 24 := Nat.mul_le_mul hn2 hn2
          have hww : IntKind.i64.wrap ((n : Int) * (n : Int)) = ((n * n : Nat) : Int) := by
            rw [← Int.natCast_mul]
            exact IntWalk.i64_in _ (by omega)
          obtain ⟨Au, cu, rfl, hu1, hu2⟩ := own_form HU.out
          have HAP : Hid (Apart u3 (.slice Au (n * n) cu)) := by
            rcases hvo : u3.ownBlock with _ | k
            · exact .inl hvo
            · rcases huo : (Value.slice Au (n * n) cu).ownBlock with _ | k2
              · exact .inr (.inl huo)
              · refine .inr (.inr ?_)
                have h1 := (HOW.out.lt k hvo).2
                have h2 := (HU.out.lt k2 huo).1
                rw [hvo, huo]
                intro e
                have e2 := Option.some.inj e
                omega
          have HKS := Lib.hid (keepL_succ (G : Int) n f fl t)
          generalize hN : n * n = N at *
          go_wp2_with fail
          clear x1
          go_loopg [3, 31] N (fun gg v ctr w6 => ∃ p : Nat, p ≤ N ∧ gg = N - p ∧ ctr = .int .i64 p ∧ ∃ M3 : List Mv, M3 = M2 ++ keepL G n f fl t p ∧ w6.ownsRow w1.heap.size 98 4 v M3.length (M3.flatMap Mv.cells) ∧ Below w1.heap.size w1 w6 ∧ w6.ownsRow w3.heap.size 3 1 (.slice Au N cu) N (((List.range N).map fun p => (imgF G n t fl p : Int)).map (Value.int .i64)) ∧ Apart v (.slice Au N cu) ∧ w5.heap.size ≤ w6.heap.size)
          case atStart => exact ⟨0, Nat.zero_le _, rfl, rfl, M2, by simp [keepL], HOW5.out, HB5.out, HU.out, HAP.out, Nat.le_refl _⟩
          case round =>
            clear HAP
            obtain ⟨p, hp, rfl, rfl, M3, hM3, ho, hb, hu6, hap, hsz⟩ := hrel
            have HOW6 := Lib.hid ho
            have HBW6 := Lib.hid hb
            have HU6 := Lib.hid hu6
            have HAP := Lib.hid hap
            have HM3 := Lib.hid hM3
            clear ho hb hu6 hap hM3
            by_cases hlp : p < N
            · rename World => w6
              have hx6 := HX1.out.of_eq (HBW6.out.block _ HX1.out.lt)
              have x0 := hx6.cell (k := 0) rfl
              have x1 := hx6.cell (k := 1) rfl
              have x2 := hx6.cell (k := 2) rfl
              have hn0 : ¬ (n : Int) = 0 := by omega
              have hn0' : ¬ n = 0 := by omega
              have htm : (p : Int).tmod (n : Int) = ((p % n : Nat) : Int) := by rw [Int.tmod_eq_emod_of_nonneg (by omega)]; simp
              have htd : (p : Int).tdiv (n : Int) = ((p / n : Nat) : Int) := by rw [Int.tdiv_eq_ediv_of_nonneg (by omega)]; simp
              have hm1 : p % n < n := Nat.mod_lt _ (by omega)
              have hm2 : p / n ≤ p := Nat.div_le_self _ _
              have hlo := hx6.lt
              clear hx6
              go_upto_region 12 with fail
              go_region
              go_wp2_with fail
              obtain ⟨a1, a2, e1, e2, hpt, ha1, ha2, ha3, ha4⟩ := pt_parts hn hn2 (by rw [hN]; exact hlp)
              have HPT := Lib.hid hpt
              rw [e1, e2]
              clear e1 e2 hpt htm htd hm1 hm2
              have hd : Below w6.heap.size w6 (w6.alloc (Obj.cells #[Value.int IntKind.i64 a1, Value.int IntKind.i64 a2] 78)).drew := below_dN (n := 1) (al1 w6 _)
              have HZ := Lib.hid ((Arr.new w6 #[Value.int IntKind.i64 a1, Value.int IntKind.i64 a2] 78).dN 1)
              generalize hw7 : (w6.alloc (Obj.cells #[Value.int IntKind.i64 a1, Value.int IntKind.i64 a2] 78)).drew = w7 at *
              have HZ7 : Hid (Arr w7 w6.heap.size 78 [.int .i64 a1, .int .i64 a2]) := by rw [← hw7]; exact HZ.out
              clear HZ hw7
              have HB7 := Lib.hid (HBW6.out.trans (hd.mono HBW6.out.size))
              have HOW7 := Lib.hid (own_below HOW6.out hd (Nat.le_refl _))
              have HU7 := Lib.hid (own_below HU6.out hd (Nat.le_refl _))
              have hbw := HV1.out.trans (HB7.out.mono HV1.out.size)
              have hV7 := HV.out.same (w' := w7) fun b hb => hbw.block b (HSS.out b hb)
              have hS7 : ∀ b, S b → b < w7.heap.size := fun b hb => Nat.lt_of_lt_of_le (HSS.out b hb) hbw.size
              have HSZ7 : Hid (w5.heap.size ≤ w7.heap.size) := Nat.le_trans hsz hd.size
              have HK := Lib.hid (keeps_any (T := fun b => w3.heap.size ≤ b ∧ b < w7.heap.size) (im := imgF G n t fl) ⟨a1, a2⟩ w7 hV7 (by rw [hN]; exact Ints.of_own HU7.out) hS7 (fun b hb => hb.2) (by
                intro q hq
                exact pl_lt hn _) (by unfold Pt.le; dsimp only; omega) hn hn2)
              clear hd hbw hV7 hS7 x0 x1 x2
              have hlen : M3.length ≤ 20000 := by
                have l1 := keepL_len (G : Int) n f fl t p
                have l2 := turns_len (g := (G : Int)) (f := f) (fl := fl) (n := n) (t := t) (by omega) (by omega)
                have l3 := moves_len (g := (G : Int)) (f := f) (n := n) (j := j) (G := G) (by omega) hG6
                rw [← HM.out] at l3
                rw [HM3.out, HM2.out, List.length_append, List.length_append]
                omega
              by_cases hk : keepsF n f (imgF (G : Int) n t fl) ⟨a1, a2⟩
              · have HDE := Lib.hid (decide_eq_true hk)
                have HNX : Hid (M3 ++ [⟨t, fl, ⟨a1, a2⟩⟩] = M2 ++ keepL (G : Int) n f fl t (p + 1)) := by
                  show _ = _
                  rw [HKS.out p, HPT.out, if_pos hk, HM3.out, List.append_assoc]
                clear hk
                refine (HK.out).mono ?_
                rintro e w8 ⟨rfl, hb8⟩
                rw [HDE.out]
                have HB8 := Lib.hid (HB7.out.trans (hb8.mono HB7.out.size))
                have HOW8 := Lib.hid (own_below HOW7.out hb8 (Nat.le_refl _))
                have HU8 := Lib.hid (own_below HU7.out hb8 (Nat.le_refl _))
                have HSZ8 : Hid (w5.heap.size ≤ w8.heap.size) := Nat.le_trans HSZ7.out hb8.size
                have hz := HZ7.out.of_eq (hb8.block _ HZ7.out.lt)
                have z0 := hz.cell (k := 0) rfl
                have z1 := hz.cell (k := 1) rfl
                clear hb8 hz
                go_wp2_with (at_builtin
                             refine app_el T95m [.int .i64 (t : Int), .bool fl, .int .i64 a1, .int .i64 a2] HOW8.out HB8.out (Nat.le_refl _) rfl rfl rfl rfl rfl (by simp [Value.oneCell']) (by omega) ?_
                             intro v1 w9 hown1 hb1 hg1 ho1)
                have HOW9 := Lib.hid hown1
                have HB9 := Lib.hid hb1
                have HU9 := Lib.hid (HAP.out.kept HU8.out hg1)
                have HAP9 := Lib.hid (HAP.out.next HU8.out (Nat.le_succ _) ho1)
                have HSZ9 : Hid (w5.heap.size ≤ w9.heap.size) := Nat.le_trans HSZ8.out hg1.size
                clear hown1 hb1 hg1 ho1 z0 z1
                go_roundg (N - (p + 1))
                case measure => omega
                case rel => exact ⟨p + 1, by omega, rfl, by go_num, M3 ++ [⟨t, fl, ⟨a1, a2⟩⟩], HNX.out, by simpa [Mv.cells] using HOW9.out, HB9.out, HU9.out, HAP9.out, HSZ9.out⟩
              · have HDE := Lib.hid (decide_eq_false hk)
                have HNX : Hid (M3 = M2 ++ keepL (G : Int) n f fl t (p + 1)) := by
                  show _ = _
                  rw [HKS.out p, HPT.out, if_neg hk, HM3.out, List.append_nil]
                clear hk
                refine (HK.out).mono ?_
                rintro e w8 ⟨rfl, hb8⟩
                rw [HDE.out]
                have HB8 := Lib.hid (HB7.out.trans (hb8.mono HB7.out.size))
                have HOW8 := Lib.hid (own_below HOW7.out hb8 (Nat.le_refl _))
                have HU8 := Lib.hid (own_below HU7.out hb8 (Nat.le_refl _))
                have HSZ8 : Hid (w5.heap.size ≤ w8.heap.size) := Nat.le_trans HSZ7.out hb8.size
                clear hb8
                go_wp2_with fail
                go_roundg (N - (p + 1))
                case measure => omega
                case rel => exact ⟨p + 1, by omega, rfl, by go_num, M3, HNX.out, HOW8.out, HB8.out, HU8.out, HAP.out, HSZ8.out⟩
            · obtain rfl : p = N := by omega
              have HTS := Lib.hid (turnL_succ (G : Int) n f fl t)
              rw [hN] at HTS
              go_wp2_with fail
              go_roundg (G - (t + 1))
              case measure => omega
              case rel => exact ⟨t + 1, by omega, rfl, by go_num, M3, by rw [HM3.out, HM2.out, HTS.out, List.append_assoc], HOW6.out, HBW6.out⟩
        · obtain rfl : t = G := by omega
          go_wp2_with fail
          go_roundg (2 - (j + 1))
          case measure => omega
          case rel => exact ⟨j + 1, by omega, rfl, by go_num, M2, by rw [HM2.out, HTK.out, List.flatMap_append, ← HM.out]; simp, HOW.out, HBW.out⟩
    · obtain rfl : j = 2 := by omega
      go_wp2_with fail
      go_ret
      refine ⟨_, rfl, ?_, HV1.out.trans (HBW.out.mono HV1.out.size)⟩
      have e : allL (G : Int) n f = M := by rw [HAL.out, hM]; simp
      rw [e]
      exact own_base HOW.out (by have := HSW.out; omega)
end Go.Proofs.YtmmakljmikdooaaDoor
/- Chapter 3: the program's Moves. -/
namespace Go.Proofs.YtmmakljmikdooaaDoor
open Go.RowKit
set_option linter.unusedVariables false
set_option linter.unusedSimpArgs false

theorem tor_pos {W H : Nat} (h1 : 1 ≤ W) (h2 : 1 ≤ H) : 1 ≤ tor W H := by
  rw [tor_lcm]
  exact Nat.lcm_pos h1 h2
/-- a cloth's value -/
theorem ClR.form {w : World} {S : Nat → Prop} {v : Value} {g : Int} {n : Nat} {f : Nat → Int} (h : ClR w S v g n f) : ∃ A c, v = .agg #[.int .i64 g, .int .i64 (n : Int), .slice A (n * n) c] := by
  obtain ⟨cv, rfl, A, c, rfl, _⟩ := h
  exact ⟨A, c, by simp⟩
theorem ChR.form {w : World} {S : Nat → Prop} {v : Value} {c : Ch} (h : ChR w S v c) : ∃ A k, v = .agg #[.int .i64 c.g, .int .i64 c.w, .int .i64 c.h, .slice A c.cs.length k] := by
  obtain ⟨cv, rfl, A, k, rfl, _⟩ := h
  exact ⟨A, k, rfl⟩
/-- all moves of a chart -/
def movesC (c : Ch) (W H : Nat) : List Mv := allL c.g (tor W H) (layF W H c.cs (tor W H))
set_option maxRecDepth 100000 in
set_option maxHeartbeats 4000000 in
theorem Moves_any {S : Nat → Prop} {v : Value} {c : Ch} {W H : Nat} (w : World) (hv : ChR w S v c) (hS : ∀ b, S b → b < w.heap.size) (hc : OkC c W H) :
    Calls Tryd.prog 41 #[v] w fun e w' => Below w.heap.size w w' ∧ ((24 < tor W H ∧ e = .returned (.tuple #[.slice none 0 0, .int .i64 4])) ∨
      (tor W H ≤ 24 ∧ ∃ u, e = .returned (.tuple #[u, .int .i64 0]) ∧ w'.ownsRow w.heap.size 98 4 u (movesC c W H).length ((movesC c W H).flatMap Mv.cells))) := by
  have HV := Lib.hid hv
  have HSS := Lib.hid hS
  have HOK := Lib.hid hc
  obtain ⟨A, k, rfl⟩ := hv.form
  clear hS hc hv
  have HX := Lib.hid (Arr.new w #[.int .i64 c.g, .int .i64 c.w, .int .i64 c.h, .slice A c.cs.length k] 24)
  have HB0 := Lib.hid (al1 w (.cells #[.int .i64 c.g, .int .i64 c.w, .int .i64 c.h, .slice A c.cs.length k] 24))
  go_enter Tryd.func41, Tryd.ntmps41
  go_upto_region 1 with fail
  generalize w.alloc (.cells #[.int .i64 c.g, .int .i64 c.w, .int .i64 c.h, .slice A c.cs.length k] 24) = w0 at *
  have x0 := HX.out.cell (k := 0) rfl
  have x1 := HX.out.cell (k := 1) rfl
  have x2 := HX.out.cell (k := 2) rfl
  have x3 := HX.out.cell (k := 3) rfl
  go_wp2_with fail
  refine (laid_any w0 (HV.out.same fun b hb => HB0.out.block b (HSS.out b hb)) (fun b hb => Nat.lt_of_lt_of_le (HSS.out b hb) HB0.out.size) HOK.out).mono ?_
  rintro e w1 ⟨hb1, (⟨hT, rfl⟩ | ⟨hT, u, rfl, hu⟩)⟩
  · have HB1 := Lib.hid (HB0.out.trans (hb1.mono HB0.out.size))
    have HB2 := Lib.hid (below_al HB1.out (Nat.le_refl _) (.cells #[.int .i64 0, .int .i64 0, .slice none 0 0] 92))
    clear hb1 x0 x1 x2 x3
    go_wp2_with fail
    go_ret2
    exact ⟨HB2.out, .inl ⟨hT, rfl⟩⟩
  · have HB1 := Lib.hid (HB0.out.trans (hb1.mono HB0.out.size))
    have HU := Lib.hid hu
    obtain ⟨A2, c2, rfl⟩ := hu.form
    clear hb1 x0 x1 x2 x3 hu
    have HZ := Lib.hid (Arr.new w1 #[.int .i64 c.g, .int .i64 (tor W H : Int), .slice A2 (tor W H * tor W H) c2] 92)
    have HB2 := Lib.hid (al1 w1 (.cells #[.int .i64 c.g, .int .i64 (tor W H : Int), .slice A2 (tor W H * tor W H) c2] 92))
    have hz := HZ.out
    go_upto_region 2 with fail
    generalize w1.alloc (.cells #[.int .i64 c.g, .int .i64 (tor W H : Int), .slice A2 (tor W H * tor W H) c2] 92) = w2 at *
    have z0 := hz.cell (k := 0) rfl
    have z1 := hz.cell (k := 1) rfl
    have z2 := hz.cell (k := 2) rfl
    clear hz
    go_wp2_with fail
    refine (all_any w2 (HU.out.same fun b hb => HB2.out.block b hb.2) (fun b hb => Nat.lt_of_lt_of_le hb.2 HB2.out.size) HOK.out.g (tor_pos HOK.out.W1 HOK.out.H1) hT).mono ?_
    rintro e w3 ⟨r, rfl, hr, hb3⟩
    have HR := Lib.hid hr
    have HB3 := Lib.hid (HB1.out.trans ((HB2.out.trans (hb3.mono HB2.out.size)).mono HB1.out.size))
    clear z0 z1 z2
    have hle : w.heap.size ≤ w2.heap.size := Nat.le_trans HB1.out.size HB2.out.size
    clear hr hb3
    go_wp2_with fail
    go_ret2
    exact ⟨HB3.out, .inr ⟨hT, r, rfl, own_base HR.out hle⟩⟩
end Go.Proofs.YtmmakljmikdooaaDoor
