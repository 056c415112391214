/- Texts of the seat, put together: GroupWalk5, GroupWalk6, GroupWalk7. -/
import Derived.Test.YtmmakljmikdooaaDoorTw6
/- Chapter 3: the program's laid. -/
namespace Go.Proofs.YtmmakljmikdooaaDoor
open Go.RowKit
set_option linter.unusedVariables false
set_option linter.unusedSimpArgs false

/-- the colour at a torus' place -/
def layF (W H : Nat) (cs : List Int) (n p : Nat) : Int := cs.getD (p / n % H * W + p % n % W) 0
/-- a cloth under way: so many of its places are laid -/
def Lay (w1 wr : World) (b : Nat) (g : Int) (n k : Nat) (F : Nat → Int) : Prop := ∃ vs, Arr wr b 92 [.int .i64 g, .int .i64 n, vs] ∧ wr.ownsRow w1.heap.size 3 1 vs k (((List.range k).map F).map (Value.int .i64)) ∧ Below w1.heap.size w1 wr ∧ vs.ownBlock ≠ some b
set_option maxRecDepth 100000 in
set_option maxHeartbeats 4000000 in
theorem laid_any {S : Nat → Prop} {v : Value} {c : Ch} {W H : Nat} (w : World) (hv : ChR w S v c) (hS : ∀ b, S b → b < w.heap.size) (hc : OkC c W H) :
    Calls Tryd.prog 29 #[v] w fun e w' => Below w.heap.size w w' ∧ ((24 < tor W H ∧ e = .returned (.tuple #[.agg #[.int .i64 0, .int .i64 0, .slice none 0 0], .int .i64 4])) ∨
      (tor W H ≤ 24 ∧ ∃ u, e = .returned (.tuple #[u, .int .i64 0]) ∧ ClR w' (fun b => w.heap.size ≤ b ∧ b < w'.heap.size) u c.g (tor W H) (layF W H c.cs (tor W H)))) := by
  have HV := Lib.hid hv
  have HSS := Lib.hid hS
  have HOK := Lib.hid hc
  obtain ⟨cv, rfl, hi⟩ := hv
  obtain ⟨A, cc, rfl, h1, h2, hr⟩ := hi
  have HR := Lib.hid hr
  clear hr
  clear hS hc
  have e1 := HOK.out.w
  have e2 := HOK.out.h
  have b1 := HOK.out.W1
  have b2 := HOK.out.W2
  have b3 := HOK.out.H1
  have b4 := HOK.out.H2
  have HTO : Hid (∀ w' : World, ChR w' S (.agg #[.int .i64 c.g, .int .i64 c.w, .int .i64 c.h, .slice A c.cs.length cc]) c → (∀ b, S b → b < w'.heap.size) → _) := fun w' k1 k2 => Torus_any w' k1 k2 HOK.out
  obtain ⟨g, cw, ch, cs⟩ := c
  dsimp only at *
  subst e1
  subst e2
  unfold maxLen at h2
  have HX := Lib.hid (arr_new2 w (.cells #[.int .i64 g, .int .i64 (W : Int), .int .i64 (H : Int), .slice A cs.length cc] 24) #[.int .i64 0, .int .i64 0, .slice none 0 0] 92)
  have HX0 := Lib.hid ((Arr.new w #[.int .i64 g, .int .i64 (W : Int), .int .i64 (H : Int), .slice A cs.length cc] 24).alloc (.cells #[.int .i64 0, .int .i64 0, .slice none 0 0] 92))
  have HB0 := Lib.hid (al2 w (.cells #[.int .i64 g, .int .i64 (W : Int), .int .i64 (H : Int), .slice A cs.length cc] 24) (.cells #[.int .i64 0, .int .i64 0, .slice none 0 0] 92))
  go_enter Tryd.func29, Tryd.ntmps29
  go_upto_region 1 with fail
  generalize (w.alloc (.cells #[.int .i64 g, .int .i64 (W : Int), .int .i64 (H : Int), .slice A cs.length cc] 24)).alloc (.cells #[.int .i64 0, .int .i64 0, .slice none 0 0] 92) = w0 at *
  have x0 := HX0.out.cell (k := 0) rfl
  have x1 := HX0.out.cell (k := 1) rfl
  have x2 := HX0.out.cell (k := 2) rfl
  have x3 := HX0.out.cell (k := 3) rfl
  go_wp2_with fail
  refine (HTO.out w0 (HV.out.same fun b hb => HB0.out.block b (HSS.out b hb)) fun b hb => Nat.lt_of_lt_of_le (HSS.out b hb) HB0.out.size).mono ?_
  rintro e w1 ⟨rfl, hb1⟩
  have HB1 := Lib.hid (HB0.out.trans (hb1.mono HB0.out.size))
  have HX1 := Lib.hid (HX.out.of_eq (hb1.block _ HX.out.lt))
  have HX01 := Lib.hid (HX0.out.of_eq (hb1.block _ HX0.out.lt))
  clear hb1 x0 x1 x2 x3
  have y0 := HX1.out.cell (k := 0) rfl
  have y1 := HX1.out.cell (k := 1) rfl
  have y2 := HX1.out.cell (k := 2) rfl
  by_cases hT : tor W H ≤ 24
  · rw [if_pos hT, if_pos hT]
    generalize hn : tor W H = n at *
    have HOK0 := Lib.hid (own_mk0 T22d)
    have mk1 := fun w => run_mk0 T22d (n * n) (by have : n * n ≤ 24 * 24 := Nat.mul_le_mul hT hT; omega) w
    have hmc : madeCells (Value.int .i64 0).cells (n * n * 1) = madeCells #[.int .i64 0] (n * n) := by rw [Nat.mul_one]; rfl
    have hnn : n * n ≤ 24 * 24 := Nat.mul_le_mul hT hT
    have hmm : IntKind.i64.wrap ((n : Int) * (n : Int)) = ((n * n : Nat) : Int) := by rw [← Int.natCast_mul]; exact IntWalk.i64_in _ (by omega)
    generalize hN : n * n = N at *
    go_upto_region 4 with fail
    have x0 := HX01.out.cell (k := 0) rfl
    have hlt0 : w.heap.size < w1.heap.size := HX01.out.lt
    go_cut [6] from 18 to 25 (fun pv wx => ∃ (b gs : Nat), pv = .pointer (some ⟨b, 0, none⟩) ∧ Arr wx b 92 [.int .i64 g, .int .i64 n, .slice (some ⟨gs, 0, none⟩) 0 N] ∧ wx.ownsRow w1.heap.size 3 1 (.slice (some ⟨gs, 0, none⟩) 0 N) 0 [] ∧ Below w1.heap.size w1 wx ∧ w1.heap.size ≤ b ∧ b ≠ gs)
    case first =>
      go_region
      all_goals
        go_wp2_with fail
        go_meet
      · have ho := own_mk0 T22d w1 w1.heap.size N (Nat.le_refl _) (by omega)
        rw [hmc] at ho
        exact ⟨w1.heap.size + 1, w1.heap.size, rfl, (arr_new2 w1 _ _ 92).of_eq rfl, (ho.alloc _).drew, below_dN (n := 1) (al2 w1 _ _), by omega, by omega⟩
      · have ho := own_mk0 T22d (w1.alloc (.cells #[.int .i64 g, .int .i64 n, .slice (some ⟨w1.heap.size + 1, 0, none⟩) 0 N] 92)) w1.heap.size N (by simp) (by omega)
        rw [hmc, World.size_alloc] at ho
        exact ⟨w1.heap.size, w1.heap.size + 1, rfl, ((Arr.new w1 _ 92).alloc _).of_eq rfl, ho.drew, below_dN (n := 1) (al2 w1 _ _), by omega, by omega⟩
    case rest =>
      obtain ⟨b, gs, rfl, ha, hown, hb, hlb, hne⟩ := hcut
      have HA := Lib.hid ha
      have HO := Lib.hid hown
      have HB := Lib.hid hb
      clear ha hown hb
      rename World => w2
      go_wp2_with fail
      generalize hF : layF W H cs n = F at *
      have HSV0 : Hid (Lay w1 w2 b g n 0 F) := ⟨_, HA.out, by simpa using HO.out, HB.out, fun e => hne (Option.some.inj e).symm⟩
      clear HA HO HB hne
      go_loopg [27] n (fun gg ctr wr => ∃ y : Nat, y ≤ n ∧ gg = n - y ∧ ctr = .int .i64 y ∧ Lay w1 wr b g n (y * n) F)
      case atStart => exact ⟨0, Nat.zero_le _, rfl, rfl, by rw [Nat.zero_mul]; exact HSV0.out⟩
      case round =>
        obtain ⟨y, hy, rfl, rfl, hlay⟩ := hrel
        have HL := Lib.hid hlay
        clear hlay
        by_cases hlt : y < n
        · go_wp2_with fail
          have hyn : y * n + n = (y + 1) * n := (Nat.succ_mul y n).symm
          have hyn2 : (y + 1) * n ≤ n * n := Nat.mul_le_mul_right n hlt
          have HYN : Hid (y * n + n = (y + 1) * n) := hyn
          generalize hm : y * n = m at *
          go_loopg [31] n (fun gg ctr w3 => ∃ i : Nat, i ≤ n ∧ gg = n - i ∧ ctr = .int .i64 i ∧ Lay w1 w3 b g n (m + i) F)
          case atStart => exact ⟨0, Nat.zero_le _, rfl, rfl, HL.out⟩
          case round =>
            clear HL
            obtain ⟨i, hi, rfl, rfl, hlay⟩ := hrel
            have HL := Lib.hid hlay
            clear hlay
            by_cases hli : i < n
            · go_upto_region 11 with fail
              obtain ⟨vs, ha, ho, hb, hne⟩ := HL.out
              obtain ⟨A1, c1, rfl, r1, r2⟩ := own_form ho
              rename World => w3
              have y2 := ha.cell (k := 2) rfl
              have hx := HX01.out.of_eq (hb.block _ HX01.out.lt)
              have x1 := hx.cell (k := 1) rfl
              have x2 := hx.cell (k := 2) rfl
              have x3 := hx.cell (k := 3) rfl
              have hbw := HB1.out.trans (hb.mono HB1.out.size)
              have hi1 : y % H < H := Nat.mod_lt _ (by omega)
              have hi2 : i % W < W := Nat.mod_lt _ (by omega)
              have hi3 : (y % H + 1) * W ≤ H * W := Nat.mul_le_mul_right W hi1
              have hi4 : y % H * W + i % W < cs.length := by rw [HOK.out.len, Nat.mul_comm W H]; rw [Nat.succ_mul] at hi3; omega
              have hi5 : cs.length ≤ 64 * 64 := by rw [HOK.out.len]; exact Nat.mul_le_mul b2 b4
              obtain ⟨bc, oc, e, hbc, z0⟩ := ints_cell (HR.out.same fun k hk => hbw.block k (HSS.out k hk)) hi4
              cases e
              have hFu : F (m + i) = cs[y % H * W + i % W] := by
                rw [← hF, ← hm]
                unfold layF
                rw [show (y * n + i) / n = y by rw [Nat.mul_comm, Nat.mul_add_div (by omega), Nat.div_eq_of_lt hli]; rfl, show (y * n + i) % n = i by rw [Nat.mul_comm, Nat.mul_add_mod]; exact Nat.mod_eq_of_lt hli]
                rw [List.getD_eq_getElem?_getD, List.getElem?_eq_getElem hi4]; rfl
              have HFU := Lib.hid hFu
              have HA3 := Lib.hid ha
              have HO3 := Lib.hid ho
              have HB3 := Lib.hid hb
              have htm1 : (y : Int).tmod (H : Int) = ((y % H : Nat) : Int) := by rw [Int.tmod_eq_emod_of_nonneg (by omega)]; simp
              have htm2 : (i : Int).tmod (W : Int) = ((i % W : Nat) : Int) := by rw [Int.tmod_eq_emod_of_nonneg (by omega)]; simp
              have hnW : ¬ (W : Int) = 0 := by omega
              have hnH : ¬ (H : Int) = 0 := by omega
              have hnW' : ¬ W = 0 := by omega
              have hnH' : ¬ H = 0 := by omega
              have hw0 : y % H * W ≤ H * W := Nat.mul_le_mul_right W (by omega)
              have hw00 : H * W ≤ 64 * 64 := Nat.mul_le_mul b4 b2
              have hw1 : IntKind.i64.wrap (((y % H : Nat) : Int) * (W : Int)) = ((y % H * W : Nat) : Int) := by rw [← Int.natCast_mul]; exact IntWalk.i64_in _ (by omega)
              generalize cs[y % H * W + i % W] = u at *
              generalize hk1 : y % H * W = k1 at *
              generalize y % H = yy at *
              generalize i % W = k2 at *
              have hw2 : IntKind.i64.wrap ((k1 : Int) + (k2 : Int)) = ((k1 + k2 : Nat) : Int) := by rw [← Int.natCast_add]; exact IntWalk.i64_in _ (by omega)
              generalize hkk : k1 + k2 = ix at *
              have hix : (ix : Int) < (cs.length : Int) := by omega
              have hix0 : (0 : Int) ≤ (ix : Int) := by omega
              have hbl := hbw.size
              have hbs := ha.lt
              have hsx := hx.lt
              have hbcl := HSS.out bc hbc
              clear hFu ha ho hb hx hbw hi3 hw0 hw00
              refine wp_region_plan [(true, 0), (true, 1), (true, 2), (true, 3), (true, 4), (true, 5), (true, 6), (true, 7), (true, 8), (true, 9), (true, 10), (true, 11), (true, 12), (true, 13), (true, 14), (true, 15), (true, 16), (true, 17), (false, 18), (false, 19), (true, 20), (false, 21)] 21
                (fun w' => w'.cell? ⟨b, 2, none⟩ = some (.slice A1 (m + i) c1) ∧ w'.cell? ⟨w.heap.size, 1, none⟩ = some (.int .i64 W) ∧ w'.cell? ⟨w.heap.size, 2, none⟩ = some (.int .i64 H) ∧ w'.cell? ⟨w.heap.size, 3, none⟩ = some (.slice (some ⟨bc, oc, none⟩) cs.length cc) ∧ w'.cell? ⟨bc, oc + ix, none⟩ = some (.int .i64 u))
                (by kernel_rfl) (by kernel_rfl) (by kernel_rfl) rfl ⟨y2, x1, x2, x3, z0⟩ ?_
              repeat (first
                | (refine plan_val _ ?_ (by rfl) (by rfl) ?_ ?_
                   rotate_left 1
                   · rintro w9 ⟨s0, s1, s2, s3, s4⟩; go_simp; first | done | with_reducible rfl
                   (try simp only [Act.put, List.setIfInBounds_toArray, List.set_cons_zero, List.set_cons_succ])))
              refine plan_do _ ?_ ?_ (by rfl) (by rfl) ?_ (.inr ?_) ?_
              rotate_left 2
              · go_simp; first | rfl | (refine And.intro ?_ ?_ <;> rfl)
              · exact ⟨(World.cell?_alloc_lt w3 _ _ (by exact hbs)).trans y2, (World.cell?_alloc_lt w3 _ _ (by exact hsx)).trans x1, (World.cell?_alloc_lt w3 _ _ (by exact hsx)).trans x2, (World.cell?_alloc_lt w3 _ _ (by exact hsx)).trans x3, (World.cell?_alloc_lt w3 _ _ (by show bc < w3.heap.size; omega)).trans z0⟩
              (try simp only [Act.put, List.setIfInBounds_toArray, List.set_cons_zero, List.set_cons_succ])
              refine plan_app _ T22d (w0 := w1) [.int .i64 u] (own_dN (k := 1) (own_al HO3.out _)) (below_dN (n := 1) (below_al HB3.out (Nat.le_refl _) _)) (Nat.le_refl _) (by rfl) (by rfl) rfl rfl rfl rfl
                (fun j u' hu => by have := (Arr.new w3 #[.int .i64 u] 3).cell (k := j) hu; rwa [Nat.zero_add]) (by simp [Value.oneCell']) (by omega) ?_
              intro v1' w8 hown1 hb1 hg1 ho1
              obtain ⟨A2, c2, hv1, _, _⟩ := own_form hown1
              subst hv1
              obtain ⟨v1, hv1⟩ : ∃ v : Value, v = .slice A2 (m + i + 1) c2 := ⟨_, rfl⟩
              rw [← hv1] at hown1 ho1
              have ha4 : Arr w8 b 92 _ := ((HA3.out.alloc (.cells #[.int .i64 u] 3)).dN 1).grown hg1 hne
              have hold : ∀ x, x < w1.heap.size → w8.heap[x]? = w3.heap[x]? := fun x hx => (hg1.block x (by show x < (w3.alloc _).heap.size; have := HB3.out.size; simp; omega) (row_ne HO3.out hx).symm).trans (Below.heap_alloc w3 _ x (by have := HB3.out.size; omega))
              have t0 := ha4.cell (k := 2) rfl
              have t1 := ha4.free 2
              have hl1 := HX01.out.lt
              have hl2 := HB1.out.size
              refine ⟨.inr ⟨t0, (World.cell?_of_block (a := ⟨w.heap.size, 1, none⟩) (hold _ hl1)).trans x1, (World.cell?_of_block (a := ⟨w.heap.size, 2, none⟩) (hold _ hl1)).trans x2, (World.cell?_of_block (a := ⟨w.heap.size, 3, none⟩) (hold _ hl1)).trans x3, (World.cell?_of_block (a := ⟨bc, oc + ix, none⟩) (hold bc (by omega))).trans z0⟩, ?_⟩
              (try simp only [Act.put, List.setIfInBounds_toArray, List.set_cons_zero, List.set_cons_succ])
              have hne1 : v1.ownBlock ≠ some b := by
                rcases ho1 with e | e
                · rw [e]; exact hne
                · rw [e]; intro e'; have e2 := Option.some.inj e'; have e3 : (w3.alloc (.cells #[.int .i64 u] 3)).heap.size = b := e2; rw [World.size_alloc] at e3; omega
              have HLN : Hid (Lay w1 (w8.setCell ⟨b, 2, none⟩ v1) b g n (m + (i + 1)) F) := by
                refine ⟨v1, ha4.set 2 v1, ?_, hb1.setCell (by exact hlb) _, hne1⟩
                have := hown1.kept (grownBy_set w8 b 2 v1) (by cases hv : v1.ownBlock with
                  | none => exact .inl rfl
                  | some k => exact .inr (by intro e; rw [← e] at hne1; exact hne1 hv))
                rw [← HFU.out, ← ints_map_snoc F] at this
                exact this
              subst hv1
              clear hown1 hb1 hg1 ho1 hold ha4 y2 x1 x2 x3 z0
              repeat (first
                | (refine plan_val _ ?_ (by rfl) (by rfl) ?_ ?_
                   rotate_left 1
                   · rintro w9 ⟨s0, s1, s2, s3, s4⟩; go_simp; first | done | with_reducible rfl
                   (try simp only [Act.put, List.setIfInBounds_toArray, List.set_cons_zero, List.set_cons_succ])))
              refine plan_store _ ?_ (by rfl) (by rfl) ?_ (.inl rfl) ?_
              rotate_left 1
              · go_simp; first | rfl | (refine And.intro ?_ ?_ <;> rfl)
              refine plan_end ?_
              (try simp only [Act.put, List.setIfInBounds_toArray, List.set_cons_zero, List.set_cons_succ])
              clear t0 t1
              go_wp2_with fail
              go_roundg (n - (i + 1))
              case measure => omega
              case rel => exact ⟨i + 1, by omega, rfl, by go_num, HLN.out⟩
            · obtain rfl : n = i := by omega
              go_wp2_with fail
              go_roundg (n - (y + 1))
              case measure => omega
              case rel => exact ⟨y + 1, by omega, rfl, by go_num, by rw [← HYN.out]; exact HL.out⟩
        · obtain rfl : n = y := by omega
          obtain ⟨vs, ha, ho, hb, hne⟩ := HL.out
          rw [hN] at ho
          obtain ⟨A1, c1, rfl, r1, r2⟩ := own_form ho
          have a0 := ha.cell (k := 0) rfl
          have a1 := ha.cell (k := 1) rfl
          have a2 := ha.cell (k := 2) rfl
          have hx := HX1.out.of_eq (hb.block _ HX1.out.lt)
          have HXr := Lib.hid hx
          have f0 := hx.free 0
          have f1 := hx.free 1
          have f2 := hx.free 2
          clear y0 y1 y2
          have y0 := hx.cell (k := 0) rfl
          have y1 := hx.cell (k := 1) rfl
          have y2 := hx.cell (k := 2) rfl
          have HIN := Lib.hid (Ints.of_own (xs := (List.range N).map F) ho)
          have HBW := Lib.hid (HB1.out.trans (hb.mono HB1.out.size))
          have hbb := HX1.out.lt
          have HSZ := Lib.hid hb.size
          clear ha ho hb hx hne
          rename World => wr
          go_wp2_with fail
          have HX2 := Lib.hid (((HXr.out.set 0 (.int .i64 g)).set 1 (.int .i64 n)).set 2 (.slice A1 N c1))
          have HB2 := Lib.hid (((HBW.out.setCell (p := ⟨w.heap.size + 1, 0, none⟩) (by simp) (.int .i64 g)).setCell (p := ⟨w.heap.size + 1, 1, none⟩) (by simp) (.int .i64 n)).setCell (p := ⟨w.heap.size + 1, 2, none⟩) (by simp) (.slice A1 N c1))
          have hsz : ∀ (q : Addr) (x : Value) (w : World), (w.setCell q x).heap.size = w.heap.size := fun _ _ _ => by simp [World.setCell]
          have HI2 := Lib.hid (HIN.out.same (w' := (((wr.setCell ⟨w.heap.size + 1, 0, none⟩ (.int .i64 g)).setCell ⟨w.heap.size + 1, 1, none⟩ (.int .i64 n)).setCell ⟨w.heap.size + 1, 2, none⟩ (.slice A1 N c1))) fun b hb' =>
            ((Below.heap_setCell _ _ _ _ (by have := hb'.1; show b ≠ w.heap.size + 1; omega)).trans (Below.heap_setCell _ _ _ _ (by have := hb'.1; show b ≠ w.heap.size + 1; omega))).trans (Below.heap_setCell _ _ _ _ (by have := hb'.1; show b ≠ w.heap.size + 1; omega)))
          have HS2 : Hid ((((wr.setCell ⟨w.heap.size + 1, 0, none⟩ (.int .i64 g)).setCell ⟨w.heap.size + 1, 1, none⟩ (.int .i64 n)).setCell ⟨w.heap.size + 1, 2, none⟩ (.slice A1 N c1)).heap.size = wr.heap.size) := by show _ = _; rw [hsz, hsz, hsz]
          generalize (((wr.setCell ⟨w.heap.size + 1, 0, none⟩ (.int .i64 g)).setCell ⟨w.heap.size + 1, 1, none⟩ (.int .i64 n)).setCell ⟨w.heap.size + 1, 2, none⟩ (.slice A1 N c1)) = w4 at *
          have q0 := HX2.out.cell (k := 0) rfl
          have q1 := HX2.out.cell (k := 1) rfl
          have q2 := HX2.out.cell (k := 2) rfl
          refine bodyPost_ret (v := .tuple #[.agg #[.int .i64 g, .int .i64 n, .slice A1 N c1], .int .i64 0]) (by simp [results, Tryd.results29, go_sem, q0, q1, q2]) rfl ?_
          have := HB1.out.size
          refine ⟨HB2.out, .inr ⟨by omega, _, rfl, ?_⟩⟩
          rw [hn, hF]
          refine ⟨_, rfl, ?_⟩
          rw [hN]
          exact (HI2.out.mono fun b hb' => ⟨by have := hb'.1; omega, by rw [HS2.out]; exact hb'.2⟩)
  · rw [if_neg hT, if_neg hT]
    generalize hn : tor W H = n at *
    have f0 := HX1.out.free 0
    have f1 := HX1.out.free 1
    have f2 := HX1.out.free 2
    go_wp2_with fail
    have HX2 := Lib.hid (((HX1.out.set 0 (.int .i64 0)).set 1 (.int .i64 0)).set 2 (.slice none 0 0))
    have HB2 := Lib.hid (((HB1.out.setCell (p := ⟨w.heap.size + 1, 0, none⟩) (by simp) (.int .i64 0)).setCell (p := ⟨w.heap.size + 1, 1, none⟩) (by simp) (.int .i64 0)).setCell (p := ⟨w.heap.size + 1, 2, none⟩) (by simp) (.slice none 0 0))
    generalize (((w1.setCell ⟨w.heap.size + 1, 0, none⟩ (.int .i64 0)).setCell ⟨w.heap.size + 1, 1, none⟩ (.int .i64 0)).setCell ⟨w.heap.size + 1, 2, none⟩ (.slice none 0 0)) = w2 at *
    have q0 := HX2.out.cell (k := 0) rfl
    have q1 := HX2.out.cell (k := 1) rfl
    have q2 := HX2.out.cell (k := 2) rfl
    refine bodyPost_ret (v := .tuple #[.agg #[.int .i64 0, .int .i64 0, .slice none 0 0], .int .i64 4]) (by simp [results, Tryd.results29, go_sem, q0, q1, q2]) rfl ?_
    exact ⟨HB2.out, .inl ⟨by omega, rfl⟩⟩
end Go.Proofs.YtmmakljmikdooaaDoor
/- Chapter 3: the program's all. -/
namespace Go.Proofs.YtmmakljmikdooaaDoor
open Go.RowKit
set_option linter.unusedVariables false
set_option linter.unusedSimpArgs false

/-- the moves of one turn and flip, of the first so many places -/
def keepL (g : Int) (n : Nat) (f : Nat → Int) (fl : Bool) (t k : Nat) : List Mv := ((List.range k).filter fun p => decide (keepsF n f (imgF g n t fl) (pt n p))).map fun p => ⟨t, fl, pt n p⟩
def turnL (g : Int) (n : Nat) (f : Nat → Int) (fl : Bool) (k : Nat) : List Mv := (List.range k).flatMap fun t => keepL g n f fl t (n * n)
def allL (g : Int) (n : Nat) (f : Nat → Int) : List Mv := turnL g n f false g.toNat ++ turnL g n f true g.toNat
def Mv.cells (m : Mv) : List Value := [.int .i64 (m.t : Int), .bool m.f, .int .i64 m.b.x, .int .i64 m.b.y]
theorem keepL_succ (g : Int) (n : Nat) (f : Nat → Int) (fl : Bool) (t k : Nat) :
    keepL g n f fl t (k + 1) = keepL g n f fl t k ++ (if keepsF n f (imgF g n t fl) (pt n k) then [⟨t, fl, pt n k⟩] else []) := by
  unfold keepL
  rw [List.range_succ, List.filter_append, List.map_append]
  by_cases h : keepsF n f (imgF g n t fl) (pt n k)
  · rw [if_pos h]; simp [List.filter_cons, h]
  · rw [if_neg h]; simp [List.filter_cons, h]
theorem turnL_succ (g : Int) (n : Nat) (f : Nat → Int) (fl : Bool) (k : Nat) : turnL g n f fl (k + 1) = turnL g n f fl k ++ keepL g n f fl k (n * n) := by
  unfold turnL
  rw [List.range_succ, List.flatMap_append]; simp
end Go.Proofs.YtmmakljmikdooaaDoor
/- Chapter 3: the program's all, walked. -/
namespace Go.Proofs.YtmmakljmikdooaaDoor
open Go.RowKit
set_option linter.unusedVariables false
set_option linter.unusedSimpArgs false

theorem T95m : SliceT Tryd.prog 95 98 (.agg #[.int .i64 0, .bool false, .int .i64 0, .int .i64 0]) 4 32 := ⟨Tryd.underlying95, by kernel_rfl, rfl, by decide, by decide⟩
theorem pt_parts {n p : Nat} (hn : 1 ≤ n) (hn2 : n ≤ 24) (hp : p < n * n) :
    ∃ a1 a2 : Int, (p : Int) % (n : Int) = a1 ∧ wrap64 ((p : Int) / (n : Int)) = a2 ∧ pt n p = ⟨a1, a2⟩ ∧ 0 ≤ a1 ∧ a1 ≤ 24 ∧ 0 ≤ a2 ∧ a2 ≤ 24 := by
  have h1 : p % n < n := Nat.mod_lt _ (by omega)
  have h2 : p / n < n := Nat.div_lt_of_lt_mul hp
  have e1 : (p : Int) % (n : Int) = ((p % n : Nat) : Int) := by simp
  have e2 : (p : Int) / (n : Int) = ((p / n : Nat) : Int) := by simp
  refine ⟨((p % n : Nat) : Int), ((p / n : Nat) : Int), e1, ?_, rfl, ?_⟩
  · rw [e2]
    generalize p / n = q at *
    exact IntWalk.wrap64_in _ (by omega)
  · generalize p / n = q at *
    generalize p % n = r at *
    omega
theorem keepL_len (g : Int) (n : Nat) (f : Nat → Int) (fl : Bool) (t k : Nat) : (keepL g n f fl t k).length ≤ k := by
  unfold keepL
  rw [List.length_map]
  exact Nat.le_trans (List.length_filter_le _ _) (by simp)
theorem turnL_len (g : Int) (n : Nat) (f : Nat → Int) (fl : Bool) : ∀ k, (turnL g n f fl k).length ≤ k * (n * n)
  | 0 => by simp [turnL]
  | k + 1 => by
    rw [turnL_succ, List.length_append, Nat.succ_mul]
    have := keepL_len g n f fl k (n * n)
    have := turnL_len g n f fl k
    omega
theorem moves_len {g : Int} {n j G : Nat} {f : Nat → Int} (hn : n * n ≤ 576) (hG : G ≤ 6) : (([false, true].take j).flatMap fun fl => turnL g n f fl G).length ≤ 6912 := by
  have h1 := turnL_len g n f false G
  have h2 := turnL_len g n f true G
  have h3 : G * (n * n) ≤ 6 * 576 := Nat.mul_le_mul hG hn
  match j with
  | 0 => simp
  | 1 => simp; omega
  | j + 2 => simp; omega
theorem turns_len {g : Int} {n t : Nat} {f : Nat → Int} {fl : Bool} (hn : n * n ≤ 576) (hG : t ≤ 6) : (turnL g n f fl t).length ≤ 3456 := by
  have h1 := turnL_len g n f fl t
  have h3 : t * (n * n) ≤ 6 * 576 := Nat.mul_le_mul hG hn
  omega
end Go.Proofs.YtmmakljmikdooaaDoor
