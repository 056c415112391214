import Derived.Test.YtaacfjeddoekfaaTl6
import Derived.Test.YtaacfjeddoekfaaTlPlanM
import Derived.Deep.CutRange
/- Chapter 12: the program's Cloth. -/
namespace Go.Proofs.Ytaacfjeddoekfaa
open Go.RowKit
set_option linter.unusedVariables false
set_option linter.unusedSimpArgs false

/-- loops renamed by their numbers -/
theorem renamed_nm {S T : Nat → Prop} {lv tv : Value} {l cs : List Int} {B : Nat} (w : World) (hl : Ints w S lv l) (ht : Ints w T tv ((List.range cs.length).map fun x => (num cs x : Int))) (hS : ∀ b, S b → b < w.heap.size) (hT : ∀ b, T b → b < w.heap.size) (hB : w.cell? ⟨B, 0, none⟩ = some tv) (hBl : B < w.heap.size)
    (hlow : ∀ x ∈ l, 0 ≤ x ∧ x < (cs.length : Int)) (hn : l.length ≤ 1000000) :
    Calls Try.prog 34 #[lv, .pointer (some ⟨B, 0, none⟩)] w fun e w' => ∃ u, e = .returned u ∧ w'.ownsRow w.heap.size 3 1 u l.length (ints (l.map (nm cs))) ∧ Below w.heap.size w w' := by
  refine (renamed_any w hl ht hS hT hB hBl (fun x hx => by rw [List.length_map, List.length_range]; exact hlow x hx) hn).mono ?_
  rintro e w' ⟨u, rfl, hu, hb⟩
  refine ⟨u, rfl, ?_, hb⟩
  have : (l.map fun x => ((List.range cs.length).map fun x => (num cs x : Int)).getD x.toNat 0) = l.map (nm cs) := List.map_congr_left fun x hx => by
    have := hlow x hx
    unfold nm
    rw [List.getD_eq_getElem?_getD, List.getElem?_map, List.getElem?_range (by omega)]
    rfl
  rw [← this]
  exact hu
theorem Ints.of_own_ne {w : World} {base g n : Nat} {e : TypeId} {v : Value} {xs : List Int} (h : w.ownsRow base e 1 v n (ints xs)) (hne : v.ownBlock ≠ some g) : Ints w (fun b => base ≤ b ∧ b < w.heap.size ∧ b ≠ g) v xs := by
  have h0 := Ints.of_own h
  obtain ⟨A, c, rfl, h1, h2, hr⟩ := h0
  refine ⟨A, c, rfl, h1, h2, hr.1, fun hn => ?_⟩
  obtain ⟨b, o, hA, hb, hc⟩ := hr.2 hn
  refine ⟨b, o, hA, ⟨hb.1, hb.2, fun e => ?_⟩, hc⟩
  subst hA e
  rcases h.2 with ⟨e0, _⟩ | ⟨g', cap, cur, hv, _, _, _⟩
  · cases e0
  · cases hv
    exact hne rfl
theorem cloth_loop {k : Kn} {i : Nat} (hi : i < k.loops.length) : (cloth k).loops.getD i noLop = ⟨(k.loops.getD (inv (cars k.loops) i) noLop).car, (k.loops.getD (inv (cars k.loops) i) noLop).thr.map (nm (cars k.loops))⟩ := by
  unfold cloth
  simp [hi]
/-- five cells and two, of two boxes -/
def set52 (w : World) (p q : Nat) (a b c d e f g : Value) : World :=
  ((((((w.setCell ⟨p, 0, none⟩ a).setCell ⟨p, 1, none⟩ b).setCell ⟨p, 2, none⟩ c).setCell ⟨p, 3, none⟩ d).setCell ⟨p, 4, none⟩ e).setCell ⟨q, 0, none⟩ f).setCell ⟨q, 1, none⟩ g
theorem set52_far (w : World) (p q : Nat) (a b c d e f g : Value) (x : Nat) (h : x ≠ p) (h' : x ≠ q) : (set52 w p q a b c d e f g).heap[x]? = w.heap[x]? :=
  (((((((Below.heap_setCell _ _ _ _ h').trans (Below.heap_setCell _ _ _ _ h')).trans (Below.heap_setCell _ _ _ _ h)).trans (Below.heap_setCell _ _ _ _ h)).trans (Below.heap_setCell _ _ _ _ h)).trans (Below.heap_setCell _ _ _ _ h)).trans (Below.heap_setCell _ _ _ _ h))
theorem set52_size (w : World) (p q : Nat) (a b c d e f g : Value) : (set52 w p q a b c d e f g).heap.size = w.heap.size := by simp [set52, World.setCell]
theorem set52_below {w0 w : World} {B p q : Nat} (hb : Below B w0 w) (hp : B ≤ p) (hq : B ≤ q) (a b c d e f g : Value) : Below B w0 (set52 w p q a b c d e f g) :=
  ((((((hb.setCell hp _).setCell hp _).setCell hp _).setCell hp _).setCell hp _).setCell hq _).setCell hq _
theorem set52_arr {w : World} {p q : Nat} {x0 x1 x2 x3 x4 y0 y1 : Value} (hpq : p ≠ q) (h : Arr w p 27 [x0, x1, x2, x3, x4]) (k : Arr w q 30 [y0, y1]) (a b c d e f g : Value) :
    Arr (set52 w p q a b c d e f g) p 27 [a, b, c, d, e] ∧ Arr (set52 w p q a b c d e f g) q 30 [f, g] := by
  have n1 : p ≠ q := hpq
  have n2 : q ≠ p := Ne.symm hpq
  exact ⟨((((((h.set 0 a).set 1 b).set 2 c).set 3 d).set 4 e).far (p := ⟨q, 0, none⟩) n1 f).far (p := ⟨q, 1, none⟩) n1 g,
    ((((((k.far (p := ⟨p, 0, none⟩) n2 a).far (p := ⟨p, 1, none⟩) n2 b).far (p := ⟨p, 2, none⟩) n2 c).far (p := ⟨p, 3, none⟩) n2 d).far (p := ⟨p, 4, none⟩) n2 e).set 0 f).set 1 g⟩

theorem drew_heap (w : World) : w.drew.heap = w.heap := rfl
theorem five_far (w : World) (p : Nat) (a b c d e : Value) (x k : Nat) (h : x ≠ p) : (((((w.setCell ⟨p, 0, none⟩ a).setCell ⟨p, 1, none⟩ b).setCell ⟨p, 2, none⟩ c).setCell ⟨p, 3, none⟩ d).setCell ⟨p, 4, none⟩ e).cell? ⟨x, k, none⟩ = w.cell? ⟨x, k, none⟩ :=
  World.cell?_of_block (a := ⟨x, k, none⟩) (((((Below.heap_setCell _ _ _ _ h).trans (Below.heap_setCell _ _ _ _ h)).trans (Below.heap_setCell _ _ _ _ h)).trans (Below.heap_setCell _ _ _ _ h)).trans (Below.heap_setCell _ _ _ _ h))

theorem five_drew (w : World) (p : Nat) (a b c d e : Value) (x k : Nat) (h : x ≠ p) : (((((w.setCell ⟨p, 0, none⟩ a).setCell ⟨p, 1, none⟩ b).setCell ⟨p, 2, none⟩ c).setCell ⟨p, 3, none⟩ d).setCell ⟨p, 4, none⟩ e).drew.cell? ⟨x, k, none⟩ = w.cell? ⟨x, k, none⟩ := by rw [World.cell?_drew]; exact five_far w p a b c d e x k h

theorem kept_five {w : World} {base g n : Nat} {e : TypeId} {size : Nat} {v : Value} {xs : List Value} (h : w.ownsRow base e size v n xs) (hne : v.ownBlock ≠ some g) (a b c d f : Value) :
    (((((w.setCell ⟨g, 0, none⟩ a).setCell ⟨g, 1, none⟩ b).setCell ⟨g, 2, none⟩ c).setCell ⟨g, 3, none⟩ d).setCell ⟨g, 4, none⟩ f).ownsRow base e size v n xs := by
  have st : ∀ {w : World} (_ : w.ownsRow base e size v n xs) (k : Nat) (u : Value), (w.setCell ⟨g, k, none⟩ u).ownsRow base e size v n xs := fun {w} h k u => h.kept (grownBy_set w g k u) (.inr hne)
  exact st (st (st (st (st h 0 a) 1 b) 2 c) 3 d) 4 f

set_option maxRecDepth 100000 in
set_option maxHeartbeats 3000000 in
theorem Cloth_any (n : Int) {v : Value} {l : List Sti} (w : World) (hv : Stitches w (fun b => b < w.heap.size) v l) :
    Calls Try.prog 19 #[.int .i64 n, v] w fun e w' => ∃ kv, e = .returned (.tuple #[kv, .agg #[.int .i64 (runAF n l).1, .int .i64 (runAF n l).2]]) ∧ KnR w' (fun b => w.heap.size ≤ b ∧ b < w'.heap.size) kv (clothA n l) ∧ Below w.heap.size w w' := by
  have HV := Lib.hid hv
  have HRUN : Hid (∀ w v, Stitches w (fun b => b < w.heap.size) v l → Calls Try.prog 11 #[.int .i64 n, v] w fun e w' => ∃ kv, e = .returned (.tuple #[kv, .agg #[.int .i64 (runAF n l).1, .int .i64 (runAF n l).2]]) ∧ KnR w' (fun b => b < w'.heap.size) kv (runAK n l) ∧ Below w.heap.size w w') := fun w v hv => RunA_any n w hv
  have HOKK : Hid ((runAF n l).1 = 0 → ∃ N, Ok N (runAK n l) ∧ clothA n l = cloth (runAK n l)) := fun h => by
    obtain ⟨N, rfl, h1, h2, _, e, _⟩ := runA_ok h
    refine ⟨N, by rw [e]; exact ok_after h1 h2 l, ?_⟩
    unfold clothA
    rw [if_pos h]
  have HBADK : Hid ((runAF n l).1 ≠ 0 → clothA n l = noKn) := fun h => by unfold clothA; rw [if_neg h]
  have HA := Lib.hid ((Arr.new w #[nils, nils, nils, nils, .int .i64 0] 27).alloc (.cells #[.int .i64 0, .int .i64 0] 30))
  have HA2 := Lib.hid (arr_new2 w (.cells #[nils, nils, nils, nils, .int .i64 0] 27) #[.int .i64 0, .int .i64 0] 30)
  have HB : Hid (Below w.heap.size w ((w.alloc (.cells #[nils, nils, nils, nils, .int .i64 0] 27)).alloc (.cells #[.int .i64 0, .int .i64 0] 30))) := ((Below.refl _ _).alloc (Nat.le_refl _) _).alloc (by simp) _
  have hsA : ((w.alloc (.cells #[nils, nils, nils, nils, .int .i64 0] 27)).alloc (.cells #[.int .i64 0, .int .i64 0] 30)).heap.size = w.heap.size + 2 := by simp
  obtain ⟨A, c, rfl, h1, h2, hr⟩ := hv
  clear hr
  unfold maxLen at h2
  generalize (runAF n l).1 = f1 at *
  generalize (runAF n l).2 = fi at *
  generalize runAK n l = kn at *
  generalize clothA n l = ck at *
  go_enter Try.func19, Try.ntmps19
  go_wp2_with fail
  generalize (w.alloc (.cells #[nils, nils, nils, nils, .int .i64 0] 27)).alloc (.cells #[.int .i64 0, .int .i64 0] 30) = wA at *
  have HSA := Lib.hid hsA
  clear hsA
  refine (HRUN.out _ _ (stis_grown HV.out HB.out)).mono ?_
  rintro e w1 ⟨kv, rfl, hk, hb1⟩
  have HK := Lib.hid hk
  obtain ⟨vl, vf, vb, vo, rfl, hl', hf', hb', ho'⟩ := hk
  obtain ⟨Aq, cq, tq, rfl, _⟩ := hl'
  obtain ⟨Af, cf, tf, rfl, _⟩ := hf'
  obtain ⟨Ab, cb, tb, rfl, _⟩ := hb'
  obtain ⟨Ap, cp, rfl, _⟩ := ho'
  have HB1 := Lib.hid (HB.out.trans (hb1.mono (by rw [HSA.out]; omega)))
  have HX := Lib.hid ((Arr.new w1 #[.slice Aq kn.loops.length cq, .slice Af kn.front.length cf, .slice Ab kn.back.length cb, .slice Ap kn.loose.length cp, .int .i64 kn.rack] 27).alloc (.cells #[.int .i64 f1, .int .i64 fi] 30))
  have HX2 := Lib.hid (arr_new2 w1 (.cells #[.slice Aq kn.loops.length cq, .slice Af kn.front.length cf, .slice Ab kn.back.length cb, .slice Ap kn.loose.length cp, .int .i64 kn.rack] 27) #[.int .i64 f1, .int .i64 fi] 30)
  have HS12 : Hid (Below w1.heap.size w1 ((w1.alloc (.cells #[.slice Aq kn.loops.length cq, .slice Af kn.front.length cf, .slice Ab kn.back.length cb, .slice Ap kn.loose.length cp, .int .i64 kn.rack] 27)).alloc (.cells #[.int .i64 f1, .int .i64 fi] 30))) := ((Below.refl _ _).alloc (Nat.le_refl _) _).alloc (by simp) _
  have hsz1 := hb1.size
  rw [HSA.out] at hsz1
  have HAA := Lib.hid ((HA.out.of_eq (hb1.block _ (by rw [HSA.out]; omega))).of_eq (HS12.out.block _ (by omega)))
  have HAA2 := Lib.hid ((HA2.out.of_eq (hb1.block _ (by rw [HSA.out]; omega))).of_eq (HS12.out.block _ (by omega)))
  clear hb1 HA HA2 HB
  go_upto_region 2 with fail
  generalize (w1.alloc (.cells #[.slice Aq kn.loops.length cq, .slice Af kn.front.length cf, .slice Ab kn.back.length cb, .slice Ap kn.loose.length cp, .int .i64 kn.rack] 27)).alloc (.cells #[.int .i64 f1, .int .i64 fi] 30) = w2 at *
  have hs12 := HS12.out.size
  have HBW2 := Lib.hid (HB1.out.trans (HS12.out.mono HB1.out.size))
  have hp6 := HX2.out.lt
  have e0 := HX2.out.cell (k := 0) rfl
  have e1 := HX2.out.cell (k := 1) rfl
  by_cases hz : f1 = 0
  case neg =>
    have HBD := Lib.hid (HBADK.out hz)
    have hzb : (f1 != 0) = true := by simpa using hz
    clear hz
    have r0 := HAA.out.cell (k := 0) rfl
    have r1 := HAA.out.cell (k := 1) rfl
    have r2 := HAA.out.cell (k := 2) rfl
    have r3 := HAA.out.cell (k := 3) rfl
    have r4 := HAA.out.cell (k := 4) rfl
    have z0 := HAA.out.free 0
    have z1 := HAA.out.free 1
    have z2 := HAA.out.free 2
    have z3 := HAA.out.free 3
    have z4 := HAA.out.free 4
    have s0 := HAA2.out.cell (k := 0) rfl
    have s1 := HAA2.out.cell (k := 1) rfl
    have g0 := HAA2.out.free 0
    have g1 := HAA2.out.free 1
    go_upto_region 3 with fail
    refine wp_region_plan [(true, 0), (true, 1), (false, 2), (false, 3)] 3
      (fun w' => w'.cell? ⟨w1.heap.size + 1, 0, none⟩ = some (.int .i64 f1) ∧ w'.cell? ⟨w1.heap.size + 1, 1, none⟩ = some (.int .i64 fi))
      (by kernel_rfl) (by kernel_rfl) (by kernel_rfl) rfl ⟨e0, e1⟩ ?_
    repeat (first
      | (refine plan_val _ ?_ (by rfl) (by rfl) ?_ ?_
         rotate_left 1
         · rintro w9 ⟨s0, s1⟩; go_simp; first | done | with_reducible rfl
         (try simp only [Act.put, List.setIfInBounds_toArray, List.set_cons_zero, List.set_cons_succ])))
    refine plan_store _ ?_ (by rfl) (by rfl) ?_ (.inr ?_) ?_
    rotate_left 1
    · go_simp; first | rfl | (refine And.intro ?_ ?_ <;> rfl)
    · exact ⟨(five_drew _ _ _ _ _ _ _ _ _ (by omega)).trans e0, (five_drew _ _ _ _ _ _ _ _ _ (by omega)).trans e1⟩
    (try simp only [Act.put, List.setIfInBounds_toArray, List.set_cons_zero, List.set_cons_succ])
    refine plan_store _ ?_ (by rfl) (by rfl) ?_ (.inl rfl) ?_
    rotate_left 1
    · go_simp; first | rfl | (refine And.intro ?_ ?_ <;> rfl)
    refine plan_end ?_
    (try simp only [Act.put, List.setIfInBounds_toArray, List.set_cons_zero, List.set_cons_succ])
    obtain ⟨ha, hb⟩ := set52_arr (p := w.heap.size) (q := w.heap.size + 1) (by omega) HAA.out HAA2.out nils nils nils nils (.int .i64 0) (.int .i64 f1) (.int .i64 fi)
    have q0 := ha.cell (k := 0) rfl
    have q1 := ha.cell (k := 1) rfl
    have q2 := ha.cell (k := 2) rfl
    have q3 := ha.cell (k := 3) rfl
    have q4 := ha.cell (k := 4) rfl
    have q5 := hb.cell (k := 0) rfl
    have q6 := hb.cell (k := 1) rfl
    unfold set52 nils at q0 q1 q2 q3 q4 q5 q6
    clear ha hb
    have HBQ : Hid (Below w.heap.size w (set52 w2 w.heap.size (w.heap.size + 1) nils nils nils nils (.int .i64 0) (.int .i64 f1) (.int .i64 fi)).drew) := below_dN (n := 1) (set52_below HBW2.out (Nat.le_refl _) (by omega) _ _ _ _ _ _ _)
    unfold set52 nils at HBQ
    go_wp2_with fail
    refine bodyPost_ret (v := .tuple #[.agg #[.slice none 0 0, .slice none 0 0, .slice none 0 0, .slice none 0 0, .int .i64 0], .agg #[.int .i64 f1, .int .i64 fi]]) (by simp [results, Try.results19, go_sem, q0, q1, q2, q3, q4, q5, q6]) rfl ⟨_, rfl, ?_, HBQ.out⟩
    rw [HBD.out]
    exact noKn_R _ _
  have hok := HOKK.out hz
  subst hz
  obtain ⟨N, hok, hck⟩ := hok
  have HOK := Lib.hid hok
  have HCK := Lib.hid hck
  clear hok hck HOKK HBADK HRUN e0
  have e0 : w2.cell? ⟨w1.heap.size + 1, 0, none⟩ = some (.int .i64 0) := HX2.out.cell (k := 0) rfl
  have hN := HOK.out.N2
  have HFL := Lib.hid HOK.out.front
  have hll := HOK.out.loops
  have hlo := HOK.out.loose
  have x0 := HX.out.cell (k := 0) rfl
  have x1 := HX.out.cell (k := 1) rfl
  have x2 := HX.out.cell (k := 2) rfl
  have x3 := HX.out.cell (k := 3) rfl
  have x4 := HX.out.cell (k := 4) rfl
  have HK2 : Hid (KnR w2 (fun b => b < w1.heap.size) (.agg #[.slice Aq kn.loops.length cq, .slice Af kn.front.length cf, .slice Ab kn.back.length cb, .slice Ap kn.loose.length cp, .int .i64 kn.rack]) kn) := HK.out.same fun b hb => HS12.out.block b hb
  go_wp2_with fail
  refine (sorted_any w2 HK2.out (fun b hb => by have : b < w1.heap.size := hb; omega) hll HOK.out.car).mono ?_
  rintro e w3 ⟨u, tv, rfl, hu, ht, hb3⟩
  have HU := Lib.hid hu
  have HT := Lib.hid ht
  obtain ⟨Au, cu, rfl, hu1, hu2, _⟩ := hu
  obtain ⟨At, ct, rfl, ht1, ht2, _⟩ := ht
  rw [List.length_map, List.length_range] at HU HT hu1 ht1 ⊢
  unfold maxLen at hu2 ht2
  have hs23 := hb3.size
  have HB3 := Lib.hid hb3
  rw [List.length_map, List.length_range]
  have HBT := Lib.hid (Arr.new w3 #[.slice At kn.loops.length ct] 25)
  have HS34 : Hid (Below w3.heap.size w3 (w3.alloc (.cells #[.slice At kn.loops.length ct] 25))) := (Below.refl _ _).alloc (Nat.le_refl _) _
  have hs34 : (w3.alloc (.cells #[.slice At kn.loops.length ct] 25)).heap.size = w3.heap.size + 1 := by simp
  clear hb3 x0 x1 x2 x3 x4
  go_upto_region 6 with fail
  generalize w3.alloc (.cells #[.slice At kn.loops.length ct] 25) = w4 at *
  have H24 : Hid (Below w2.heap.size w2 w4) := HB3.out.trans (HS34.out.mono HB3.out.size)
  have HBW4 : Hid (Below w.heap.size w w4) := HBW2.out.trans (H24.out.mono HBW2.out.size)
  have HX4 : Hid (Arr w4 w1.heap.size 27 [.slice Aq kn.loops.length cq, .slice Af kn.front.length cf, .slice Ab kn.back.length cb, .slice Ap kn.loose.length cp, .int .i64 kn.rack]) := HX.out.of_eq (H24.out.block _ HX.out.lt)
  have HXX4 : Hid (Arr w4 (w1.heap.size + 1) 30 [.int .i64 0, .int .i64 fi]) := HX2.out.of_eq (H24.out.block _ HX2.out.lt)
  have HA4 : Hid (Arr w4 w.heap.size 27 [nils, nils, nils, nils, .int .i64 0]) := HAA.out.of_eq (H24.out.block _ HAA.out.lt)
  have HAA4 : Hid (Arr w4 (w.heap.size + 1) 30 [.int .i64 0, .int .i64 0]) := HAA2.out.of_eq (H24.out.block _ HAA2.out.lt)
  have HK4 : Hid (KnR w4 (fun b => b < w1.heap.size) (.agg #[.slice Aq kn.loops.length cq, .slice Af kn.front.length cf, .slice Ab kn.back.length cb, .slice Ap kn.loose.length cp, .int .i64 kn.rack]) kn) := HK2.out.same fun b hb => H24.out.block b (by have : b < w1.heap.size := hb; omega)
  have HU4 : Hid (Ints w4 (fun b => w2.heap.size ≤ b ∧ b < w3.heap.size) (.slice Au kn.loops.length cu) ((List.range kn.loops.length).map fun t => (inv (cars kn.loops) t : Int))) := HU.out.same fun b hb => HS34.out.block b hb.2
  have HT4 : Hid (Ints w4 (fun b => w2.heap.size ≤ b ∧ b < w3.heap.size) (.slice At kn.loops.length ct) ((List.range kn.loops.length).map fun x => (num (cars kn.loops) x : Int))) := HT.out.same fun b hb => HS34.out.block b hb.2
  clear HX HX2 HAA HAA2 HK HK2 HU HT H24 HBW2 HB1 HS12 HB3 HS34
  have HSZ := Lib.hid hs34
  clear hs34
  have hcl : (cars kn.loops).length = kn.loops.length := cars_len _
  have HREN : Hid (∀ (w' : World) (lv : Value) (xs : List Int), Below w4.heap.size w4 w' → Ints w4 (fun b => b < w1.heap.size) lv xs → (∀ x ∈ xs, 0 ≤ x ∧ x < (kn.loops.length : Int)) → xs.length ≤ 1000000 →
      Calls Try.prog 34 #[lv, .pointer (some ⟨w3.heap.size, 0, none⟩)] w' fun e w'' => ∃ u, e = .returned u ∧ w''.ownsRow w'.heap.size 3 1 u xs.length (ints (xs.map (nm (cars kn.loops)))) ∧ Below w'.heap.size w' w'') := fun w' lv xs hb hl hlow hn => by
    have hsz := hb.size
    rw [HSZ.out] at hsz
    have ht := HT4.out.same (w' := w') fun b hb' => hb.block b (by have := hb'.2; rw [HSZ.out]; omega)
    have hcl2 : (List.range kn.loops.length) = List.range (cars kn.loops).length := by rw [hcl]
    rw [hcl2] at ht
    exact renamed_nm w' (hl.same fun b hb' => hb.block b (by have : b < w1.heap.size := hb'; rw [HSZ.out]; omega)) ht (fun b hb' => by have : b < w1.heap.size := hb'; omega) (fun b hb' => by have := hb'.2; omega) ((hb.cell (p := ⟨w3.heap.size, 0, none⟩) (by show w3.heap.size < w4.heap.size; rw [HSZ.out]; omega)).trans (HBT.out.cell (k := 0) rfl)) (by omega) (fun x hx => by rw [hcl]; exact hlow x hx) hn
  have HLO : Hid (Ints w4 (fun b => b < w1.heap.size) (.slice Ap kn.loose.length cp) kn.loose) := by
    obtain ⟨_, _, _, _, e, _, _, _, h⟩ := HK4.out
    simp only [Value.agg.injEq, Array.mk.injEq, List.cons.injEq, and_true] at e
    obtain ⟨rfl, rfl, rfl, rfl⟩ := e
    exact h
  have x3 := HX4.out.cell (k := 3) rfl
  have x4 := HX4.out.cell (k := 4) rfl
  have hp6 : w1.heap.size < w4.heap.size := HX4.out.lt
  have HBa : Hid (Below w4.heap.size w4 w4.drew) := below_dN (n := 1) (Below.refl _ _)
  have HBb : Hid (Below w4.heap.size w4 (w4.drew.alloc (.cells #[nils, nils, nils, nils, .int .i64 0] 27))) := HBa.out.alloc (by exact HBa.out.size) _
  have hnx : w4.heap.size ≠ w1.heap.size := by omega
  go_cut [11] from 32 to 38 (fun gp wx => ∃ g vo, gp = .pointer (some ⟨g, 0, none⟩) ∧ Below w4.heap.size w4 wx ∧ Arr wx g 27 [nils, nils, nils, vo, .int .i64 kn.rack] ∧ w4.heap.size ≤ g ∧
    wx.ownsRow w4.heap.size 3 1 vo kn.loose.length (ints (kn.loose.map (nm (cars kn.loops)))) ∧ vo.ownBlock ≠ some g)
  case first =>
    go_region_held3 (fun w' => w'.cell? ⟨w1.heap.size, 4, none⟩ = some (.int .i64 kn.rack) ∧ w'.cell? ⟨w1.heap.size, 3, none⟩ = some (.slice Ap kn.loose.length cp)) (go_keep)
      (first
        | (go_at_call 34
           refine (HREN.out _ _ _ (by first | exact HBa.out | exact HBb.out) HLO.out HOK.out.told.loose (by omega)).mono ?_
           rintro e w5 ⟨u, rfl, hu, hb⟩
           have hpq : ¬ w5.heap.size = w1.heap.size := by have := hb.size; simp at this; omega
           have q4 : w5.cell? ⟨w1.heap.size, 4, none⟩ = some (.int .i64 kn.rack) := (World.cell?_of_block (a := ⟨w1.heap.size, 4, none⟩) (hb.block w1.heap.size (by simp; omega))).trans (by simp [*])
           have q3 : w5.cell? ⟨w1.heap.size, 3, none⟩ = some (.slice Ap kn.loose.length cp) := (World.cell?_of_block (a := ⟨w1.heap.size, 3, none⟩) (hb.block w1.heap.size (by simp; omega))).trans (by simp [*])
           have HBw : Hid (Below w4.heap.size w4 w5) := by
             first
               | exact HBa.out.trans (hb.mono (by simp))
               | exact HBb.out.trans (hb.mono (by simp))
           have HUw : Hid (w5.ownsRow w4.heap.size 3 1 u kn.loose.length (ints (kn.loose.map (nm (cars kn.loops))))) := own_base hu (by simp)
           have HUl : Hid (∀ x, u.ownBlock = some x → x < w5.heap.size) := fun x hx => (hu.lt x hx).2
           try (have HUa : Hid (u.ownBlock ≠ some w4.heap.size) := fun e => by have := (hu.lt _ e).1; simp at this; omega)
           obtain ⟨Av, cv, rfl, _, _⟩ := own_form hu
           clear hu
           try (have hz : Arr w5 w4.heap.size 27 [nils, nils, nils, nils, .int .i64 0] := (Arr.new w4.drew #[nils, nils, nils, nils, .int .i64 0] 27).of_eq (hb.block _ (by simp))
                have HZ := Lib.hid hz
                have r0 := hz.cell (k := 0) rfl
                have r1 := hz.cell (k := 1) rfl
                have r2 := hz.cell (k := 2) rfl
                have r3 := hz.cell (k := 3) rfl
                have r4 := hz.cell (k := 4) rfl
                have f0 := hz.free 0
                have f1 := hz.free 1
                have f2 := hz.free 2
                have f3 := hz.free 3
                have f4 := hz.free 4
                clear hz)
           clear hb))
    all_goals
      go_wp2_with fail
      go_meet
    · exact ⟨w5.heap.size, _, rfl, HBw.out.alloc HBw.out.size _, Arr.new w5 _ 27, HBw.out.size, own_al HUw.out _, fun e => by have := HUl.out _ e; omega⟩
    · refine ⟨w4.heap.size, _, rfl, ((((HBw.out.setCell (Nat.le_refl _) _).setCell (Nat.le_refl _) _).setCell (Nat.le_refl _) _).setCell (Nat.le_refl _) _).setCell (Nat.le_refl _) _, ((((HZ.out.set 0 _).set 1 _).set 2 _).set 3 _).set 4 _, Nat.le_refl _, ?_, HUa.out⟩
      exact kept_five HUw.out HUa.out _ _ _ _ _
  case rest =>
    obtain ⟨g, vo, rfl, hb, ha, hg, ho, hne⟩ := hcut
    have HBC := Lib.hid hb
    have HAC := Lib.hid ha
    have HOC := Lib.hid ho
    have HNE := Lib.hid hne
    have hsc := hb.size
    have y3 := ha.cell (k := 3) rfl
    obtain ⟨Av, cv, rfl, _, _⟩ := own_form ho
    clear hb ha ho hne x3 x4 HBa HBb
    go_wp2_with fail
    have hml : (kn.loose.map (nm (cars kn.loops))).length = kn.loose.length := List.length_map ..
    have HOC2 : Hid (wc.ownsRow w4.heap.size 3 1 (.slice Av kn.loose.length cv) (kn.loose.map (nm (cars kn.loops))).length (ints (kn.loose.map (nm (cars kn.loops))))) := by show World.ownsRow _ _ _ _ _ _ _; rw [hml]; exact HOC.out
    refine (sortInts_own wc HOC2.out (by rw [hml]; omega)).mono ?_
    rintro e w6 ⟨rfl, ho6, hg6⟩
    have HB6 : Hid (Below w4.heap.size w4 w6) := below_owned HBC.out HOC.out hg6 (Nat.le_refl _)
    have HA6 : Hid (Arr w6 g 27 [nils, nils, nils, .slice Av kn.loose.length cv, .int .i64 kn.rack]) := HAC.out.grown hg6 HNE.out
    have hlm : ((kn.loose.map (nm (cars kn.loops))).mergeSort fun x y => decide (x ≤ y)).length = (kn.loose.map (nm (cars kn.loops))).length := List.length_mergeSort ..
    have HS0 : Hid (SB w4 w6 g (fun b => if b = g then rK else rC) [0, 1, 2] (fun i => if i = 0 then nils else nils) (fun _ => 0) (fun _ => []) (.slice Av kn.loose.length cv) kn.rack [(.slice Av kn.loose.length cv, (cloth kn).loose)]) :=
      SB.start (w0 := w4) [0, 1, 2] (u0 := nils) HB6.out HA6.out hg (fun _ => rfl) (xs := (cloth kn).loose) (Ints.of_own_ne ho6 HNE.out)
    clear ho6 hg6 hml hlm y3 HOC HOC2 HAC HBC HNE HA6 HB6
    have HK0 : Hid ((clothS kn).loops.length = kn.loops.length ∧ (clothS kn).rack = kn.rack ∧ (clothS kn).loose = (cloth kn).loose ∧ told N (clothS kn) = cloth kn) := ⟨cloth_loops_len kn, rfl, rfl, told_cloth HFL.out HOK.out.back⟩
    have HKL : Hid (∀ i, i < kn.loops.length → (clothS kn).loops.getD i noLop = ⟨(kn.loops.getD (inv (cars kn.loops) i) noLop).car, (kn.loops.getD (inv (cars kn.loops) i) noLop).thr.map (nm (cars kn.loops))⟩) := fun i hi => cloth_loop hi
    have HKF : Hid (∀ i, i < N → (clothS kn).on 0 (i : Int) = (kn.front.getD i []).map (nm (cars kn.loops))) := fun i hi => by
      have h1 : i < kn.front.length := by rw [HFL.out]; exact hi
      show (cloth kn).front.getD (i : Int).toNat [] = _
      unfold cloth
      simp [h1]
    have HKB : Hid (∀ i, i < N → (clothS kn).on 1 (i : Int) = (kn.back.getD i []).map (nm (cars kn.loops))) := fun i hi => by
      have h1 : i < kn.back.length := by rw [HOK.out.back]; exact hi
      show (cloth kn).back.getD (i : Int).toNat [] = _
      unfold cloth
      simp [h1]
    have HORD : Hid (∀ (w' : World) (i : Nat), Below w4.heap.size w4 w' → i < kn.loops.length → ∃ b o, Au = some ⟨b, o, none⟩ ∧ w'.cell? ⟨b, o + i, none⟩ = some (.int .i64 (inv (cars kn.loops) i : Int))) := fun w' i hb hi => by
      have h := HU4.out.same (w' := w') fun b hb' => hb.block b (by have := hb'.2; rw [HSZ.out]; omega)
      obtain ⟨A', c', e, _, _, hr⟩ := h
      rw [List.length_map, List.length_range] at e
      cases e
      obtain ⟨b, o, e, _, y0⟩ := ints_cell hr (k := i) (by rw [List.length_map, List.length_range]; exact hi)
      refine ⟨b, o, e, ?_⟩
      rw [y0]
      simp
    have HLP : Hid (∀ (w' : World) (i : Nat), Below w4.heap.size w4 w' → i < kn.loops.length → ∃ b o At' ct', Aq = some ⟨b, o, none⟩ ∧ w'.cell? ⟨b, o + i * 2, none⟩ = some (.int .i64 (kn.loops.getD i noLop).car) ∧ w'.cell? ⟨b, o + i * 2 + 1, none⟩ = some (.slice At' (kn.loops.getD i noLop).thr.length ct') ∧
        b < w1.heap.size ∧ Ints w4 (fun b => b < w1.heap.size) (.slice At' (kn.loops.getD i noLop).thr.length ct') (kn.loops.getD i noLop).thr) := fun w' i hb hi => by
      obtain ⟨vl, vf, vb, vo, e, hl, hf, hbk, ho⟩ := HK4.out
      simp only [Value.agg.injEq, Array.mk.injEq, List.cons.injEq, and_true] at e
      obtain ⟨rfl, rfl, rfl, rfl⟩ := e
      obtain ⟨A', c', tv', e, _, _, hr, hth⟩ := hl
      cases e
      obtain ⟨b, o, e, hbl, u0, u1⟩ := loop_cells (hr.same (w' := w') fun b hb' => hb.block b (by have : b < w1.heap.size := hb'; rw [HSZ.out]; omega)) hi
      have h := hth i hi
      obtain ⟨At', ct', e2, p1, p2, p3⟩ := h
      refine ⟨b, o, At', ct', e, u0, by rw [u1, e2], hbl, At', ct', rfl, p1, p2, p3⟩
    have HFR : Hid (∀ (w' : World) (i : Nat), Below w4.heap.size w4 w' → i < N → ∃ b o At' ct', Af = some ⟨b, o, none⟩ ∧ w'.cell? ⟨b, o + i, none⟩ = some (.slice At' (kn.front.getD i []).length ct') ∧
        b < w1.heap.size ∧ Ints w4 (fun b => b < w1.heap.size) (.slice At' (kn.front.getD i []).length ct') (kn.front.getD i [])) := fun w' i hb hi => by
      obtain ⟨vl, vf, vb, vo, e, hl, hf, hbk, ho⟩ := HK4.out
      simp only [Value.agg.injEq, Array.mk.injEq, List.cons.injEq, and_true] at e
      obtain ⟨rfl, rfl, rfl, rfl⟩ := e
      obtain ⟨A', c', tv', e, _, _, hr, hth⟩ := hf
      cases e
      obtain ⟨b, o, e, hbl, u0⟩ := list_cell (hr.same (w' := w') fun b hb' => hb.block b (by have : b < w1.heap.size := hb'; rw [HSZ.out]; omega)) (i := i) (by rw [HFL.out]; exact hi)
      have h := hth i (by rw [HFL.out]; exact hi)
      obtain ⟨At', ct', e2, p1, p2, p3⟩ := h
      refine ⟨b, o, At', ct', e, by rw [u0, e2], hbl, At', ct', rfl, p1, p2, p3⟩
    have HBR : Hid (∀ (w' : World) (i : Nat), Below w4.heap.size w4 w' → i < N → ∃ b o At' ct', Ab = some ⟨b, o, none⟩ ∧ w'.cell? ⟨b, o + i, none⟩ = some (.slice At' (kn.back.getD i []).length ct') ∧
        b < w1.heap.size ∧ Ints w4 (fun b => b < w1.heap.size) (.slice At' (kn.back.getD i []).length ct') (kn.back.getD i [])) := fun w' i hb hi => by
      obtain ⟨vl, vf, vb, vo, e, hl, hf, hbk, ho⟩ := HK4.out
      simp only [Value.agg.injEq, Array.mk.injEq, List.cons.injEq, and_true] at e
      obtain ⟨rfl, rfl, rfl, rfl⟩ := e
      obtain ⟨A', c', tv', e, _, _, hr, hth⟩ := hbk
      cases e
      obtain ⟨b, o, e, hbl, u0⟩ := list_cell (hr.same (w' := w') fun b hb' => hb.block b (by have : b < w1.heap.size := hb'; rw [HSZ.out]; omega)) (i := i) (by rw [HOK.out.back]; exact hi)
      have h := hth i (by rw [HOK.out.back]; exact hi)
      obtain ⟨At', ct', e2, p1, p2, p3⟩ := h
      refine ⟨b, o, At', ct', e, by rw [u0, e2], hbl, At', ct', rfl, p1, p2, p3⟩
    have HTL : Hid (∀ i, i < kn.loops.length → (kn.loops.getD i noLop).thr.length ≤ 8 ∧ ∀ x ∈ (kn.loops.getD i noLop).thr, 0 ≤ x ∧ x < (kn.loops.length : Int)) := fun i hi => ⟨HOK.out.thr i hi, HOK.out.told.thr i hi⟩
    have HTF : Hid (∀ i, i < N → (kn.front.getD i []).length ≤ 8 ∧ ∀ x ∈ kn.front.getD i [], 0 ≤ x ∧ x < (kn.loops.length : Int)) := fun i hi => ⟨HOK.out.fl i, fun x hx => HOK.out.told.front _ (by
      have h1 : i < kn.front.length := by rw [HFL.out]; exact hi
      rw [List.getD_eq_getElem?_getD, List.getElem?_eq_getElem h1]
      exact List.getElem_mem h1) x hx⟩
    have HTB : Hid (∀ i, i < N → (kn.back.getD i []).length ≤ 8 ∧ ∀ x ∈ kn.back.getD i [], 0 ≤ x ∧ x < (kn.loops.length : Int)) := fun i hi => ⟨HOK.out.bl i, fun x hx => HOK.out.told.back _ (by
      have h1 : i < kn.back.length := by rw [HOK.out.back]; exact hi
      rw [List.getD_eq_getElem?_getD, List.getElem?_eq_getElem h1]
      exact List.getElem_mem h1) x hx⟩
    have HINV : Hid (∀ i, i < kn.loops.length → inv (cars kn.loops) i < kn.loops.length) := fun i hi => by
      have := (inv_spec (cs := cars kn.loops) (t := i) (by rw [hcl]; exact hi)).1
      rwa [hcl] at this
    have HB2 : Hid (kn.back.length = N) := HOK.out.back
    generalize clothS kn = kc at *
    have HS1 : Hid (S1 w4 w6 g kc 0) := by
      rw [← HK0.out.2.1, ← HK0.out.2.2.1] at HS0
      exact ⟨_, _, _, _, _, _, fun _ => nils, HS0.out, rfl, rfl, fun j hj => by omega, by simp, rfl, rfl, rfl, rfl, rfl, rfl⟩
    clear HS0 HU4 HT4 HK4 HLO hu1 hu2 ht1 ht2
    go_wp2_with fail
    go_loopg [44] kn.loops.length (fun gg ctr wr => ∃ i : Nat, i ≤ kn.loops.length ∧ gg = kn.loops.length - i ∧ ctr = .int .i64 i ∧ S1 w4 wr g kc i)
    case atStart => exact ⟨0, by omega, rfl, rfl, HS1.out⟩
    case round =>
      clear HS1
      obtain ⟨i, hi, rfl, rfl, hs1⟩ := hrel
      by_cases hlt : i < kn.loops.length
      case pos =>
        have HBW := Lib.hid hs1.below
        obtain ⟨own, v, n', cs, vo', cl, tl, hsb, e0', e1', hm, hvo, hrest⟩ := hs1
        obtain ⟨A0, ca0, hv0, hc1, hc2⟩ := own_form (hsb.row 0 (by simp)).1
        rw [e0'] at hc1
        unfold maxLen at hc2
        obtain ⟨bo, oo, e, yo⟩ := HORD.out wr i HBW.out hlt
        cases e
        have hmi := HINV.out i hlt
        have HKI := Lib.hid (HKL.out i hlt)
        generalize inv (cars kn.loops) i = m at *
        obtain ⟨bl, ol, Ax, cx, e, z0, z1, hbl, hth⟩ := HLP.out wr m HBW.out hmi
        cases e
        have HTH := Lib.hid hth
        obtain ⟨hthl, hlow⟩ := HTL.out m hmi
        have HLOW := Lib.hid hlow
        have q0 := (HBW.out.cell (p := ⟨w1.heap.size, 0, none⟩) hp6).trans (HX4.out.cell (k := 0) rfl)
        have HSBX := Lib.hid hsb
        have HM2 := Lib.hid (And.intro e0' (And.intro e1' (And.intro hm (And.intro hvo hrest))))
        have HV0 := Lib.hid hv0
        have y0 := hsb.cell (j := 0) rfl
        rw [hv0, e0'] at y0
        have hsw := HBW.out.size
        rw [HSZ.out] at hsw
        have hgw := hsb.arr.lt
        clear hsb e0' e1' hm hvo hrest hv0 hlow hth
        generalize hcar : (kn.loops.getD m noLop).car = car at *
        generalize hthr : (kn.loops.getD m noLop).thr = thr at *
        clear hcar hthr
        go_upto_region 11 with fail
        refine wp_region_plan [(true, 0), (true, 1), (true, 2), (true, 3), (true, 4), (true, 5), (true, 6), (true, 7), (true, 8), (true, 9), (true, 10), (true, 11), (true, 12), (true, 13), (true, 14), (false, 15), (true, 16), (false, 17), (false, 18), (true, 19), (false, 20)] 20
          (fun w' => w'.cell? ⟨g, 0, none⟩ = some (.slice A0 i ca0) ∧ w'.cell? ⟨w1.heap.size, 0, none⟩ = some (.slice (some ⟨bl, ol, none⟩) kn.loops.length cq) ∧ w'.cell? ⟨bl, ol + m * 2, none⟩ = some (.int .i64 car) ∧ w'.cell? ⟨bl, ol + m * 2 + 1, none⟩ = some (.slice Ax thr.length cx))
          (by kernel_rfl) (by kernel_rfl) (by kernel_rfl) rfl ⟨y0, q0, z0, z1⟩ ?_
        repeat (first
          | (refine plan_val _ ?_ (by rfl) (by rfl) ?_ ?_
             rotate_left 1
             · rintro w9 ⟨s0, s1, s2, s3⟩; go_simp; first | done | with_reducible rfl
             (try simp only [Act.put, List.setIfInBounds_toArray, List.set_cons_zero, List.set_cons_succ])))
        refine plan_call _ ?_ ?_ (by rfl) (by rfl) ?_ ?_
        rotate_left 2
        · go_simp; (refine And.intro ?_ ?_ <;> rfl)
        refine (HREN.out _ _ _ (below_dN (n := 1) HBW.out) HTH.out HLOW.out (by omega)).mono ?_
        rintro e w7 ⟨u, rfl, hu, hb7⟩
        have HS3 := Lib.hid (HSBX.out.drew.more hb7 (Ints.of_own hu))
        obtain ⟨Au', cu', rfl, _, _⟩ := own_form hu
        have hs7 : wr.heap.size ≤ w7.heap.size := hb7.size
        have y3 : w7.cell? ⟨g, 0, none⟩ = some (.slice A0 i ca0) := (World.cell?_of_block (a := ⟨g, 0, none⟩) (hb7.block g hgw)).trans y0
        have b0 : w7.cell? ⟨w1.heap.size, 0, none⟩ = some (.slice (some ⟨bl, ol, none⟩) kn.loops.length cq) := (World.cell?_of_block (a := ⟨w1.heap.size, 0, none⟩) (hb7.block _ (by show w1.heap.size < wr.heap.size; omega))).trans q0
        have b1 : w7.cell? ⟨bl, ol + m * 2, none⟩ = some (.int .i64 car) := (World.cell?_of_block (a := ⟨bl, ol + m * 2, none⟩) (hb7.block _ (by show bl < wr.heap.size; omega))).trans z0
        have b2 : w7.cell? ⟨bl, ol + m * 2 + 1, none⟩ = some (.slice Ax thr.length cx) := (World.cell?_of_block (a := ⟨bl, ol + m * 2 + 1, none⟩) (hb7.block _ (by show bl < wr.heap.size; omega))).trans z1
        have hg3 : g < w7.heap.size := by omega
        have hx3 : w1.heap.size < w7.heap.size := by omega
        have hy3 : bl < w7.heap.size := by omega
        clear hb7 hu
        refine ⟨_, rfl, .inr ⟨y3, b0, b1, b2⟩, ?_⟩
        (try simp only [Act.put, List.setIfInBounds_toArray, List.set_cons_zero, List.set_cons_succ])
        repeat (first
          | (refine plan_val _ ?_ (by rfl) (by rfl) ?_ ?_
             rotate_left 1
             · rintro w9 ⟨s0, s1, s2, s3⟩; go_simp; first | done | with_reducible rfl
             (try simp only [Act.put, List.setIfInBounds_toArray, List.set_cons_zero, List.set_cons_succ])))
        refine plan_do _ ?_ ?_ (by rfl) (by rfl) ?_ (.inr ?_) ?_
        rotate_left 2
        · go_simp; first | rfl | (refine And.intro ?_ ?_ <;> rfl)
        · exact ⟨by rw [World.cell?_alloc_lt _ _ _ (by exact hg3)]; exact y3, by rw [World.cell?_alloc_lt _ _ _ (by exact hx3)]; exact b0, by rw [World.cell?_alloc_lt _ _ _ (by exact hy3)]; exact b1, by rw [World.cell?_alloc_lt _ _ _ (by exact hy3)]; exact b2⟩
        (try simp only [Act.put, List.setIfInBounds_toArray, List.set_cons_zero, List.set_cons_succ])
        have hon : (w7.alloc (.cells #[.int .i64 car, .slice Au' thr.length cu'] 41)).ownsRow w4.heap.size 41 2 (.slice A0 i ca0) i (cs 0) := by
          have := own_al (HS3.out.row 0 (by simp)).1 (.cells #[.int .i64 car, .slice Au' thr.length cu'] 41)
          rw [HV0.out, HM2.out.1] at this
          exact this
        have hby : (i + 1) * 32 ≤ 140737488355328 := by omega
        refine plan_app _ T23 (w0 := w4) [.int .i64 car, .slice Au' thr.length cu'] hon (HS3.out.below.alloc HS3.out.below.size _) (Nat.le_refl _) (by rfl) (by rfl) rfl rfl rfl rfl
          (fun j u hu => by have := (Arr.new w7 #[.int .i64 car, .slice Au' thr.length cu'] 41).cell (k := j) hu; rwa [Nat.zero_add]) (by simp [Value.oneCell']) hby ?_
        intro v1 w8 hown1 hb1 hg1 ho1
        obtain ⟨A1, c1', rfl, r1, r2⟩ := own_form hown1
        have hgw8 : w7.grownBy w8 (v 0).ownBlock := by rw [HV0.out, HM2.out.1]; exact grownBy_alloc_first hg1
        have hli : i < kc.loops.length := by rw [HK0.out.1]; exact hlt
        have HF := Lib.hid (S1.app (k := kc) (z := w7.heap.size + 1) HS3.out hli HM2.out.2.1 (fun j hj => List.mem_cons_of_mem _ (HM2.out.2.2.1 j hj)) (by rw [HKI.out]; exact List.mem_cons_self) (List.mem_cons_of_mem _ HM2.out.2.2.2.1) HM2.out.2.2.2.2 hgw8 (Nat.le_succ _) hb1 (by rw [HKI.out]; exact hown1) (by rw [HV0.out, HM2.out.1]; rw [World.size_alloc] at ho1; exact ho1))
        have hgg : w8.heap[g]? = w7.heap[g]? := hgw8.block _ hg3 fun e => absurd (HS3.out.og.symm.trans ((HS3.out.row 0 (by simp)).2 g e.symm)) (by simp)
        have hold : ∀ x, x < w4.heap.size → w8.heap[x]? = w7.heap[x]? := fun x hx => hgw8.block _ (by have := HS3.out.below.size; omega) fun e => by have := ((HS3.out.row 0 (by simp)).1.lt x e.symm).1; omega
        have t0 : w8.cell? ⟨g, 0, none⟩ = some (.slice A0 i ca0) := (World.cell?_of_block (a := ⟨g, 0, none⟩) hgg).trans y3
        have t1 : w8.frozen? ⟨g, 0, none⟩ = false := (World.frozen?_of_block (a := ⟨g, 0, none⟩) hgg).trans (HS3.out.arr.free 0)
        have hb4 : bl < w4.heap.size := by rw [HSZ.out]; omega
        refine ⟨.inr ⟨t0, (World.cell?_of_block (a := ⟨w1.heap.size, 0, none⟩) (hold _ hp6)).trans b0, (World.cell?_of_block (a := ⟨bl, ol + m * 2, none⟩) (hold _ hb4)).trans b1, (World.cell?_of_block (a := ⟨bl, ol + m * 2 + 1, none⟩) (hold _ hb4)).trans b2⟩, ?_⟩
        clear hown1 hb1 hg1 ho1 hgw8 hgg hold hon b0 b1 b2 y3 q0 z0 z1 y0 yo
        (try simp only [Act.put, List.setIfInBounds_toArray, List.set_cons_zero, List.set_cons_succ])
        repeat (first
          | (refine plan_val _ ?_ (by rfl) (by rfl) ?_ ?_
             rotate_left 1
             · rintro w9 ⟨s0, s1, s2, s3⟩; go_simp; first | done | with_reducible rfl
             (try simp only [Act.put, List.setIfInBounds_toArray, List.set_cons_zero, List.set_cons_succ])))
        refine plan_store _ ?_ (by rfl) (by rfl) ?_ (.inl rfl) ?_
        rotate_left 1
        · go_simp; first | rfl | (refine And.intro ?_ ?_ <;> rfl)
        refine plan_end ?_
        (try simp only [Act.put, List.setIfInBounds_toArray, List.set_cons_zero, List.set_cons_succ])
        clear t0 t1
        go_wp2_with fail
        go_roundg (kn.loops.length - (i + 1))
        case measure => omega
        case rel => exact ⟨i + 1, by omega, rfl, by go_num, HF.out⟩
      obtain rfl : i = kn.loops.length := by omega
      have HS2 : Hid (S2 w4 wr g kc 0 0) := by
        rw [← HK0.out.1] at hs1
        exact S2.start hs1
      have q1 := (HS2.out.below.cell (p := ⟨w1.heap.size, 1, none⟩) hp6).trans (HX4.out.cell (k := 1) rfl)
      rw [HFL.out] at q1
      clear hs1 hi hlt HORD HLP HKL HTL HINV
      go_wp2_with fail
      go_loopg [72] N (fun gg ctr wr => ∃ i : Nat, i ≤ N ∧ gg = N - i ∧ ctr = .int .i64 i ∧ S2 w4 wr g kc i i)
      case atStart => exact ⟨0, by omega, rfl, rfl, HS2.out⟩
      case round =>
        clear HS2 q1
        obtain ⟨i, hi, rfl, rfl, hs2⟩ := hrel
        have HBW := Lib.hid hs2.below
        have hsw := HBW.out.size
        rw [HSZ.out] at hsw
        by_cases hlt : i < N
        case neg =>
          obtain rfl : i = N := by omega
          obtain ⟨v0, v1, v2, vo, harr, hkr⟩ := hs2.end_
          obtain ⟨rk, hrk⟩ : ∃ rk : Int, rk = kc.rack := ⟨_, rfl⟩
          rw [← hrk] at harr hkr
          clear hrk
          have HKR := Lib.hid hkr
          obtain ⟨_, _, _, _, e, hl', hf', hb', ho'⟩ := hkr
          simp only [Value.agg.injEq, Array.mk.injEq, List.cons.injEq, and_true] at e
          obtain ⟨rfl, rfl, rfl, rfl, -⟩ := e
          obtain ⟨Aq2, cq2, tq2, rfl, _⟩ := hl'
          obtain ⟨Af2, cf2, tf2, rfl, _⟩ := hf'
          obtain ⟨Ab2, cb2, tb2, rfl, _⟩ := hb'
          obtain ⟨Ap2, cp2, rfl, _⟩ := ho'
          have HZA := Lib.hid (HA4.out.of_eq (HBW.out.block _ HA4.out.lt))
          have HZA2 := Lib.hid (HAA4.out.of_eq (HBW.out.block _ HAA4.out.lt))
          have HZX := Lib.hid (HXX4.out.of_eq (HBW.out.block _ HXX4.out.lt))
          have HBWW : Hid (Below w.heap.size w wr) := HBW4.out.trans (HBW.out.mono HBW4.out.size)
          have hgl := harr.lt
          generalize (told i kc).loops.length = n0 at *
          generalize (told i kc).front.length = n1 at *
          generalize (told i kc).back.length = n2 at *
          generalize (told i kc).loose.length = n3 at *
          have c0 := harr.cell (k := 0) rfl
          have c1 := harr.cell (k := 1) rfl
          have c2 := harr.cell (k := 2) rfl
          have c3 := harr.cell (k := 3) rfl
          have c4 := harr.cell (k := 4) rfl
          have d0 := HZX.out.cell (k := 0) rfl
          have d1 := HZX.out.cell (k := 1) rfl
          have r0 := HZA.out.cell (k := 0) rfl
          have r1 := HZA.out.cell (k := 1) rfl
          have r2 := HZA.out.cell (k := 2) rfl
          have r3 := HZA.out.cell (k := 3) rfl
          have r4 := HZA.out.cell (k := 4) rfl
          have z0 := HZA.out.free 0
          have z1 := HZA.out.free 1
          have z2 := HZA.out.free 2
          have z3 := HZA.out.free 3
          have z4 := HZA.out.free 4
          have s0 := HZA2.out.cell (k := 0) rfl
          have s1 := HZA2.out.cell (k := 1) rfl
          have g0 := HZA2.out.free 0
          have g1 := HZA2.out.free 1
          go_upto_region 18 with fail
          refine wp_region_plan [(true, 0), (true, 1), (false, 2), (false, 3)] 3
            (fun w' => (w'.cell? ⟨g, 0, none⟩ = some (.slice Aq2 n0 cq2) ∧ w'.cell? ⟨g, 1, none⟩ = some (.slice Af2 n1 cf2) ∧ w'.cell? ⟨g, 2, none⟩ = some (.slice Ab2 n2 cb2) ∧ w'.cell? ⟨g, 3, none⟩ = some (.slice Ap2 n3 cp2) ∧ w'.cell? ⟨g, 4, none⟩ = some (.int .i64 rk)) ∧
              w'.cell? ⟨w1.heap.size + 1, 0, none⟩ = some (.int .i64 0) ∧ w'.cell? ⟨w1.heap.size + 1, 1, none⟩ = some (.int .i64 fi))
            (by kernel_rfl) (by kernel_rfl) (by kernel_rfl) rfl ⟨⟨c0, c1, c2, c3, c4⟩, d0, d1⟩ ?_
          repeat (first
            | (refine plan_val _ ?_ (by rfl) (by rfl) ?_ ?_
               rotate_left 1
               · rintro w9 ⟨⟨s0, s1, s2, s3, s4⟩, s5, s6⟩; go_simp; first | done | with_reducible rfl
               (try simp only [Act.put, List.setIfInBounds_toArray, List.set_cons_zero, List.set_cons_succ])))
          refine plan_store _ ?_ (by rfl) (by rfl) ?_ (.inr ?_) ?_
          rotate_left 1
          · go_simp; first | rfl | (refine And.intro ?_ ?_ <;> rfl)
          · exact ⟨⟨(five_drew _ _ _ _ _ _ _ _ _ (by omega)).trans c0, (five_drew _ _ _ _ _ _ _ _ _ (by omega)).trans c1, (five_drew _ _ _ _ _ _ _ _ _ (by omega)).trans c2, (five_drew _ _ _ _ _ _ _ _ _ (by omega)).trans c3, (five_drew _ _ _ _ _ _ _ _ _ (by omega)).trans c4⟩, (five_drew _ _ _ _ _ _ _ _ _ (by omega)).trans d0, (five_drew _ _ _ _ _ _ _ _ _ (by omega)).trans d1⟩
          (try simp only [Act.put, List.setIfInBounds_toArray, List.set_cons_zero, List.set_cons_succ])
          refine plan_store _ ?_ (by rfl) (by rfl) ?_ (.inl rfl) ?_
          rotate_left 1
          · go_simp; first | rfl | (refine And.intro ?_ ?_ <;> rfl)
          refine plan_end ?_
          (try simp only [Act.put, List.setIfInBounds_toArray, List.set_cons_zero, List.set_cons_succ])
          obtain ⟨ha, hb⟩ := set52_arr (p := w.heap.size) (q := w.heap.size + 1) (by omega) HZA.out HZA2.out (.slice Aq2 n0 cq2) (.slice Af2 n1 cf2) (.slice Ab2 n2 cb2) (.slice Ap2 n3 cp2) (.int .i64 rk) (.int .i64 0) (.int .i64 fi)
          have q0 := ha.cell (k := 0) rfl
          have q1 := ha.cell (k := 1) rfl
          have q2 := ha.cell (k := 2) rfl
          have q3 := ha.cell (k := 3) rfl
          have q4 := ha.cell (k := 4) rfl
          have q5 := hb.cell (k := 0) rfl
          have q6 := hb.cell (k := 1) rfl
          have HFAR : Hid (∀ x, x ≠ w.heap.size → x ≠ w.heap.size + 1 → (set52 wr w.heap.size (w.heap.size + 1) (.slice Aq2 n0 cq2) (.slice Af2 n1 cf2) (.slice Ab2 n2 cb2) (.slice Ap2 n3 cp2) (.int .i64 rk) (.int .i64 0) (.int .i64 fi)).drew.heap[x]? = wr.heap[x]?) := fun x h1 h2 => by rw [drew_heap]; exact set52_far _ _ _ _ _ _ _ _ _ _ x h1 h2
          have HSIZ : Hid ((set52 wr w.heap.size (w.heap.size + 1) (.slice Aq2 n0 cq2) (.slice Af2 n1 cf2) (.slice Ab2 n2 cb2) (.slice Ap2 n3 cp2) (.int .i64 rk) (.int .i64 0) (.int .i64 fi)).drew.heap.size = wr.heap.size) := by show _ = _; rw [drew_heap]; exact set52_size _ _ _ _ _ _ _ _ _ _
          have HBQ : Hid (Below w.heap.size w (set52 wr w.heap.size (w.heap.size + 1) (.slice Aq2 n0 cq2) (.slice Af2 n1 cf2) (.slice Ab2 n2 cb2) (.slice Ap2 n3 cp2) (.int .i64 rk) (.int .i64 0) (.int .i64 fi)).drew) := below_dN (n := 1) (set52_below HBWW.out (Nat.le_refl _) (by omega) _ _ _ _ _ _ _)
          have HKQ : Hid (KnR (set52 wr w.heap.size (w.heap.size + 1) (.slice Aq2 n0 cq2) (.slice Af2 n1 cf2) (.slice Ab2 n2 cb2) (.slice Ap2 n3 cp2) (.int .i64 rk) (.int .i64 0) (.int .i64 fi)).drew (fun b => w.heap.size ≤ b ∧ b < (set52 wr w.heap.size (w.heap.size + 1) (.slice Aq2 n0 cq2) (.slice Af2 n1 cf2) (.slice Ab2 n2 cb2) (.slice Ap2 n3 cp2) (.int .i64 rk) (.int .i64 0) (.int .i64 fi)).drew.heap.size) (.agg #[.slice Aq2 n0 cq2, .slice Af2 n1 cf2, .slice Ab2 n2 cb2, .slice Ap2 n3 cp2, .int .i64 rk]) ck) := by
            have := HKR.out
            rw [HK0.out.2.2.2, ← HCK.out] at this
            exact (this.same fun b hb => HFAR.out b (by have := hb.1; omega) (by have := hb.1; omega)).mono fun b hb => ⟨by have := hb.1; omega, by rw [HSIZ.out]; exact hb.2⟩
          unfold set52 at q0 q1 q2 q3 q4 q5 q6 HBQ HKQ
          clear ha hb HFAR HSIZ
          go_wp2_with fail
          exact bodyPost_ret (v := .tuple #[.agg #[.slice Aq2 n0 cq2, .slice Af2 n1 cf2, .slice Ab2 n2 cb2, .slice Ap2 n3 cp2, .int .i64 rk], .agg #[.int .i64 0, .int .i64 fi]]) (by simp [results, Try.results19, go_sem, q0, q1, q2, q3, q4, q5, q6]) rfl ⟨_, rfl, HKQ.out, HBQ.out⟩
        obtain ⟨own, v, n', cs, vo', cl, tl, tf', tb', hsb, k0, ⟨k1, k2, k3⟩, k4, k5, k6⟩ := hs2
        obtain ⟨A1, ca1, hv1, hc1, hc2⟩ := own_form (hsb.row 1 (by simp)).1
        obtain ⟨A2, ca2, hv2, hc3, hc4⟩ := own_form (hsb.row 2 (by simp)).1
        rw [k1] at hc1
        rw [k4] at hc3
        unfold maxLen at hc2 hc4
        obtain ⟨bf, of, Axf, cxf, e, z4, hbf, hthf⟩ := HFR.out wr i HBW.out hlt
        have HEF := Lib.hid e
        obtain ⟨bb, ob, Axb, cxb, e', z5, hbb, hthb⟩ := HBR.out wr i HBW.out hlt
        have HEB := Lib.hid e'
        clear e e'
        obtain ⟨hlf, hlowf⟩ := HTF.out i hlt
        obtain ⟨hlb, hlowb⟩ := HTB.out i hlt
        have HTHF := Lib.hid hthf
        have HTHB := Lib.hid hthb
        have HLOWF := Lib.hid hlowf
        have HLOWB := Lib.hid hlowb
        have HKF1 := Lib.hid (HKF.out i hlt)
        have HKB1 := Lib.hid (HKB.out i hlt)
        clear hthf hthb hlowf hlowb
        generalize kn.front.getD i [] = lf at *
        generalize kn.back.getD i [] = lb at *
        have z2 := (HBW.out.cell (p := ⟨w1.heap.size, 1, none⟩) hp6).trans (HX4.out.cell (k := 1) rfl)
        have z3 := (HBW.out.cell (p := ⟨w1.heap.size, 2, none⟩) hp6).trans (HX4.out.cell (k := 2) rfl)
        rw [HFL.out, HEF.out] at z2
        rw [HB2.out, HEB.out] at z3
        have z0 := hsb.cell (j := 1) rfl
        rw [hv1, k1] at z0
        have z1 := hsb.cell (j := 2) rfl
        rw [hv2, k4] at z1
        have HSBX := Lib.hid hsb
        have HM2 := Lib.hid (And.intro k0 (And.intro (And.intro k1 (And.intro k2 k3)) (And.intro k4 (And.intro k5 k6))))
        have HV1 := Lib.hid hv1
        have HV2 := Lib.hid hv2
        have hgw := hsb.arr.lt
        clear hsb k0 k1 k2 k3 k4 k5 k6 hv1 hv2
        go_upto_region 16 with fail
        refine Late2.wp_region_plan [(true, 0), (true, 1), (true, 2), (true, 3), (true, 4), (true, 5), (true, 6), (true, 7), (true, 11), (true, 12), (true, 13), (true, 14), (true, 15), (true, 16), (true, 17), (true, 18), (false, 8), (false, 9), (false, 10), (true, 22), (false, 19), (false, 20), (false, 21), (false, 23), (false, 24), (false, 25)] 23
          (fun w' => w'.cell? ⟨g, 1, none⟩ = some (.slice A1 i ca1) ∧ w'.cell? ⟨g, 2, none⟩ = some (.slice A2 i ca2) ∧ w'.cell? ⟨w1.heap.size, 1, none⟩ = some (.slice (some ⟨bf, of, none⟩) N cf) ∧ w'.cell? ⟨w1.heap.size, 2, none⟩ = some (.slice (some ⟨bb, ob, none⟩) N cb) ∧ w'.cell? ⟨bf, of + i, none⟩ = some (.slice Axf lf.length cxf) ∧ w'.cell? ⟨bb, ob + i, none⟩ = some (.slice Axb lb.length cxb))
          (by kernel_rfl) (by kernel_rfl) (by kernel_rfl) rfl ⟨z0, z1, z2, z3, z4, z5⟩ ?_
        repeat (first
          | (refine Late2.plan_val _ ?_ (by rfl) (by rfl) ?_ ?_
             rotate_left 1
             · rintro w9 ⟨s0, s1, s2, s3, s4, s5⟩; go_simp; first | done | with_reducible rfl
             (try simp only [Act.put, List.setIfInBounds_toArray, List.set_cons_zero, List.set_cons_succ])))
        refine Late2.plan_call _ ?_ ?_ (by rfl) (by rfl) ?_ ?_
        rotate_left 2
        · go_simp; (refine And.intro ?_ ?_ <;> rfl)
        refine (HREN.out _ _ _ (below_dN (n := 1) HBW.out) HTHF.out HLOWF.out (by omega)).mono ?_
        rintro e w7 ⟨u, rfl, hu, hb7⟩
        have HS3 := Lib.hid ((HSBX.out.drew.more hb7 (Ints.of_own hu)).sq)
        obtain ⟨Au', cu', rfl, _, _⟩ := own_form hu
        have hs7 : wr.heap.size ≤ w7.heap.size := hb7.size
        have b0 : w7.cell? ⟨g, 1, none⟩ = some (.slice A1 i ca1) := (World.cell?_of_block (a := ⟨g, 1, none⟩) (hb7.block _ (by show g < wr.heap.size; omega))).trans z0
        have b1 : w7.cell? ⟨g, 2, none⟩ = some (.slice A2 i ca2) := (World.cell?_of_block (a := ⟨g, 2, none⟩) (hb7.block _ (by show g < wr.heap.size; omega))).trans z1
        have b2 : w7.cell? ⟨w1.heap.size, 1, none⟩ = some (.slice (some ⟨bf, of, none⟩) N cf) := (World.cell?_of_block (a := ⟨w1.heap.size, 1, none⟩) (hb7.block _ (by show w1.heap.size < wr.heap.size; omega))).trans z2
        have b3 : w7.cell? ⟨w1.heap.size, 2, none⟩ = some (.slice (some ⟨bb, ob, none⟩) N cb) := (World.cell?_of_block (a := ⟨w1.heap.size, 2, none⟩) (hb7.block _ (by show w1.heap.size < wr.heap.size; omega))).trans z3
        have b4 : w7.cell? ⟨bf, of + i, none⟩ = some (.slice Axf lf.length cxf) := (World.cell?_of_block (a := ⟨bf, of + i, none⟩) (hb7.block _ (by show bf < wr.heap.size; omega))).trans z4
        have b5 : w7.cell? ⟨bb, ob + i, none⟩ = some (.slice Axb lb.length cxb) := (World.cell?_of_block (a := ⟨bb, ob + i, none⟩) (hb7.block _ (by show bb < wr.heap.size; omega))).trans z5
        have hg7 : g < w7.heap.size := by omega
        have hx7 : w1.heap.size < w7.heap.size := by omega
        have hf7 : bf < w7.heap.size := by omega
        have hb7' : bb < w7.heap.size := by omega
        clear hb7 hu
        refine ⟨_, rfl, .inr ⟨b0, b1, b2, b3, b4, b5⟩, ?_⟩
        (try simp only [Act.put, List.setIfInBounds_toArray, List.set_cons_zero, List.set_cons_succ])
        refine Late2.plan_do _ ?_ ?_ (by rfl) (by rfl) ?_ (.inr ?_) ?_
        rotate_left 2
        · go_simp; first | rfl | (refine And.intro ?_ ?_ <;> rfl)
        · exact ⟨by rw [World.cell?_alloc_lt _ _ _ (by exact hg7)]; exact b0, by rw [World.cell?_alloc_lt _ _ _ (by exact hg7)]; exact b1, by rw [World.cell?_alloc_lt _ _ _ (by exact hx7)]; exact b2, by rw [World.cell?_alloc_lt _ _ _ (by exact hx7)]; exact b3, by rw [World.cell?_alloc_lt _ _ _ (by exact hf7)]; exact b4, by rw [World.cell?_alloc_lt _ _ _ (by exact hb7')]; exact b5⟩
        (try simp only [Act.put, List.setIfInBounds_toArray, List.set_cons_zero, List.set_cons_succ])
        have hon : (w7.alloc (.cells #[.slice Au' lf.length cu'] 25)).ownsRow w4.heap.size 25 1 (.slice A1 i ca1) i (cs 1) := by
          have := own_al (HS3.out.row 1 (by simp)).1 (.cells #[.slice Au' lf.length cu'] 25)
          rw [HV1.out, HM2.out.2.1.1] at this
          exact this
        have hby : (i + 1) * 24 ≤ 140737488355328 := by omega
        refine Late2.plan_app _ T24 (w0 := w4) [.slice Au' lf.length cu'] hon (HS3.out.below.alloc HS3.out.below.size _) (Nat.le_refl _) (by rfl) (by rfl) rfl rfl rfl rfl
          (fun j u hu => by have := (Arr.new w7 #[.slice Au' lf.length cu'] 25).cell (k := j) hu; rwa [Nat.zero_add]) (by simp [Value.oneCell']) hby ?_
        intro v1' w8 hown1 hb1 hg1 ho1
        have hgw8 : w7.grownBy w8 (v 1).ownBlock := by rw [HV1.out, HM2.out.2.1.1]; exact grownBy_alloc_first hg1
        have hown1' : w8.ownsRow w4.heap.size (et 1) (sz 1) v1' (i + 1) (cs 1 ++ [Value.slice Au' lf.length cu']) := hown1
        have HQ1 := Lib.hid (HS3.out.grow (r := 1) (v' := v1') (z := w7.heap.size + 1) (m := i + 1) (us := cs 1 ++ [Value.slice Au' lf.length cu']) (by simp) hgw8 (Nat.le_succ _) hb1 hown1' (by rw [HV1.out, HM2.out.2.1.1]; rw [World.size_alloc] at ho1; exact ho1))
        obtain ⟨A1', c1', rfl, r1, r2⟩ := own_form hown1
        have hs8 := hgw8.size
        have hgg : w8.heap[g]? = w7.heap[g]? := hgw8.block _ hg7 fun e => absurd (HS3.out.og.symm.trans ((HS3.out.row 1 (by simp)).2 g e.symm)) (by simp)
        have hold : ∀ x, x < w1.heap.size + 1 → w8.heap[x]? = w7.heap[x]? := fun x hx => hgw8.block _ (by omega) fun e => by have := ((HS3.out.row 1 (by simp)).1.lt x e.symm).1; rw [HSZ.out] at this; omega
        have d0 : w8.cell? ⟨g, 1, none⟩ = some (.slice A1 i ca1) := (World.cell?_of_block (a := ⟨g, 1, none⟩) (hgg)).trans b0
        have d1 : w8.cell? ⟨g, 2, none⟩ = some (.slice A2 i ca2) := (World.cell?_of_block (a := ⟨g, 2, none⟩) (hgg)).trans b1
        have d2 : w8.cell? ⟨w1.heap.size, 1, none⟩ = some (.slice (some ⟨bf, of, none⟩) N cf) := (World.cell?_of_block (a := ⟨w1.heap.size, 1, none⟩) (hold w1.heap.size (by omega))).trans b2
        have d3 : w8.cell? ⟨w1.heap.size, 2, none⟩ = some (.slice (some ⟨bb, ob, none⟩) N cb) := (World.cell?_of_block (a := ⟨w1.heap.size, 2, none⟩) (hold w1.heap.size (by omega))).trans b3
        have d4 : w8.cell? ⟨bf, of + i, none⟩ = some (.slice Axf lf.length cxf) := (World.cell?_of_block (a := ⟨bf, of + i, none⟩) (hold bf (by omega))).trans b4
        have d5 : w8.cell? ⟨bb, ob + i, none⟩ = some (.slice Axb lb.length cxb) := (World.cell?_of_block (a := ⟨bb, ob + i, none⟩) (hold bb (by omega))).trans b5
        have HBW8 := Lib.hid HQ1.out.below
        refine ⟨.inr ⟨d0, d1, d2, d3, d4, d5⟩, ?_⟩
        clear hown1 hown1' hb1 hg1 ho1 hgw8 hgg hold hon b0 b1 b2 b3 b4 b5
        (try simp only [Act.put, List.setIfInBounds_toArray, List.set_cons_zero, List.set_cons_succ])
        repeat (first
          | (refine Late2.plan_val _ ?_ (by rfl) (by rfl) ?_ ?_
             rotate_left 1
             · rintro w9 ⟨s0, s1, s2, s3, s4, s5⟩; go_simp; first | done | with_reducible rfl
             (try simp only [Act.put, List.setIfInBounds_toArray, List.set_cons_zero, List.set_cons_succ])))
        refine Late2.plan_call _ ?_ ?_ (by rfl) (by rfl) ?_ ?_
        rotate_left 2
        · go_simp; (refine And.intro ?_ ?_ <;> rfl)
        refine (HREN.out _ _ _ HBW8.out HTHB.out HLOWB.out (by omega)).mono ?_
        rintro e w9 ⟨u, rfl, hu, hb9⟩
        have HQ2 := Lib.hid (HQ1.out.more hb9 (Ints.of_own hu))
        obtain ⟨Av', cv', rfl, _, _⟩ := own_form hu
        have hs9 : w8.heap.size ≤ w9.heap.size := hb9.size
        have b0 : w9.cell? ⟨g, 1, none⟩ = some (.slice A1 i ca1) := (World.cell?_of_block (a := ⟨g, 1, none⟩) (hb9.block _ (by show g < w8.heap.size; omega))).trans d0
        have b1 : w9.cell? ⟨g, 2, none⟩ = some (.slice A2 i ca2) := (World.cell?_of_block (a := ⟨g, 2, none⟩) (hb9.block _ (by show g < w8.heap.size; omega))).trans d1
        have b2 : w9.cell? ⟨w1.heap.size, 1, none⟩ = some (.slice (some ⟨bf, of, none⟩) N cf) := (World.cell?_of_block (a := ⟨w1.heap.size, 1, none⟩) (hb9.block _ (by show w1.heap.size < w8.heap.size; omega))).trans d2
        have b3 : w9.cell? ⟨w1.heap.size, 2, none⟩ = some (.slice (some ⟨bb, ob, none⟩) N cb) := (World.cell?_of_block (a := ⟨w1.heap.size, 2, none⟩) (hb9.block _ (by show w1.heap.size < w8.heap.size; omega))).trans d3
        have b4 : w9.cell? ⟨bf, of + i, none⟩ = some (.slice Axf lf.length cxf) := (World.cell?_of_block (a := ⟨bf, of + i, none⟩) (hb9.block _ (by show bf < w8.heap.size; omega))).trans d4
        have b5 : w9.cell? ⟨bb, ob + i, none⟩ = some (.slice Axb lb.length cxb) := (World.cell?_of_block (a := ⟨bb, ob + i, none⟩) (hb9.block _ (by show bb < w8.heap.size; omega))).trans d5
        have hg9 : g < w9.heap.size := by omega
        have hx9 : w1.heap.size < w9.heap.size := by omega
        have hf9 : bf < w9.heap.size := by omega
        have hb9' : bb < w9.heap.size := by omega
        clear hb9 hu
        refine ⟨_, rfl, .inr ⟨b0, b1, b2, b3, b4, b5⟩, ?_⟩
        (try simp only [Act.put, List.setIfInBounds_toArray, List.set_cons_zero, List.set_cons_succ])
        refine Late2.plan_do _ ?_ ?_ (by rfl) (by rfl) ?_ (.inr ?_) ?_
        rotate_left 2
        · go_simp; first | rfl | (refine And.intro ?_ ?_ <;> rfl)
        · exact ⟨by rw [World.cell?_alloc_lt _ _ _ (by exact hg9)]; exact b0, by rw [World.cell?_alloc_lt _ _ _ (by exact hg9)]; exact b1, by rw [World.cell?_alloc_lt _ _ _ (by exact hx9)]; exact b2, by rw [World.cell?_alloc_lt _ _ _ (by exact hx9)]; exact b3, by rw [World.cell?_alloc_lt _ _ _ (by exact hf9)]; exact b4, by rw [World.cell?_alloc_lt _ _ _ (by exact hb9')]; exact b5⟩
        (try simp only [Act.put, List.setIfInBounds_toArray, List.set_cons_zero, List.set_cons_succ])
        have hrow2 : w9.ownsRow w4.heap.size 25 1 (v 2) (n' 2) (cs 2) := (HQ2.out.row 2 (by simp)).1
        have hsep2 := (HQ2.out.row 2 (by simp)).2
        have hon : (w9.alloc (.cells #[.slice Av' lb.length cv'] 25)).ownsRow w4.heap.size 25 1 (.slice A2 i ca2) i (cs 2) := by
          have := own_al hrow2 (.cells #[.slice Av' lb.length cv'] 25)
          rw [HV2.out, HM2.out.2.2.1] at this
          exact this
        refine Late2.plan_app _ T24 (w0 := w4) [.slice Av' lb.length cv'] hon (HQ2.out.below.alloc HQ2.out.below.size _) (Nat.le_refl _) (by rfl) (by rfl) rfl rfl rfl rfl
          (fun j u hu => by have := (Arr.new w9 #[.slice Av' lb.length cv'] 25).cell (k := j) hu; rwa [Nat.zero_add]) (by simp [Value.oneCell']) hby ?_
        intro v2' w10 hown1 hb1 hg1 ho1
        have hgw10 : w9.grownBy w10 (v 2).ownBlock := by rw [HV2.out, HM2.out.2.2.1]; exact grownBy_alloc_first hg1
        have hown2' : w10.ownsRow w4.heap.size (et 2) (sz 2) v2' (i + 1) (cs 2 ++ [Value.slice Av' lb.length cv']) := hown1
        have HQ3 := Lib.hid (HQ2.out.grow (r := 2) (v' := v2') (z := w9.heap.size + 1) (m := i + 1) (us := cs 2 ++ [Value.slice Av' lb.length cv']) (by simp) hgw10 (Nat.le_succ _) hb1 hown2' (by show v2'.ownBlock = (v 2).ownBlock ∨ _; rw [HV2.out, HM2.out.2.2.1]; rw [World.size_alloc] at ho1; exact ho1))
        obtain ⟨A2', c2', rfl, r3, r4⟩ := own_form hown1
        have hs10 := hgw10.size
        have hgg : w10.heap[g]? = w9.heap[g]? := hgw10.block _ hg9 fun e => absurd (HQ2.out.og.symm.trans (hsep2 g e.symm)) (by simp)
        have hold : ∀ x, x < w1.heap.size + 1 → w10.heap[x]? = w9.heap[x]? := fun x hx => hgw10.block _ (by omega) fun e => by have := (hrow2.lt x e.symm).1; rw [HSZ.out] at this; omega
        have e0 : w10.cell? ⟨g, 1, none⟩ = some (.slice A1 i ca1) := (World.cell?_of_block (a := ⟨g, 1, none⟩) (hgg)).trans b0
        have e1 : w10.cell? ⟨g, 2, none⟩ = some (.slice A2 i ca2) := (World.cell?_of_block (a := ⟨g, 2, none⟩) (hgg)).trans b1
        have e2 : w10.cell? ⟨w1.heap.size, 1, none⟩ = some (.slice (some ⟨bf, of, none⟩) N cf) := (World.cell?_of_block (a := ⟨w1.heap.size, 1, none⟩) (hold w1.heap.size (by omega))).trans b2
        have e3 : w10.cell? ⟨w1.heap.size, 2, none⟩ = some (.slice (some ⟨bb, ob, none⟩) N cb) := (World.cell?_of_block (a := ⟨w1.heap.size, 2, none⟩) (hold w1.heap.size (by omega))).trans b3
        have e4 : w10.cell? ⟨bf, of + i, none⟩ = some (.slice Axf lf.length cxf) := (World.cell?_of_block (a := ⟨bf, of + i, none⟩) (hold bf (by omega))).trans b4
        have e5 : w10.cell? ⟨bb, ob + i, none⟩ = some (.slice Axb lb.length cxb) := (World.cell?_of_block (a := ⟨bb, ob + i, none⟩) (hold bb (by omega))).trans b5
        have f1 : w10.frozen? ⟨g, 1, none⟩ = false := HQ3.out.arr.free 1
        have f2 : w10.frozen? ⟨g, 2, none⟩ = false := HQ3.out.arr.free 2
        have HF : Hid (S2 w4 ((w10.setCell ⟨g, 1, none⟩ (.slice A1' (i + 1) c1')).setCell ⟨g, 2, none⟩ (.slice A2' (i + 1) c2')) g kc (i + 1) (i + 1)) :=
          S2.both (u1 := .slice Au' lf.length cu') (u2 := .slice Av' lb.length cv') (tf := tf') (tb := tb') HQ3.out ⟨HM2.out.1.1, HM2.out.1.2.1, fun j hj => List.mem_cons_of_mem _ (List.mem_cons_of_mem _ (HM2.out.1.2.2.1 j hj)), List.mem_cons_of_mem _ (List.mem_cons_of_mem _ HM2.out.1.2.2.2)⟩
            ⟨rfl, by show cs 1 ++ _ = _; rw [HM2.out.2.1.2.1], fun j hj => List.mem_cons_of_mem _ (List.mem_cons_of_mem _ (HM2.out.2.1.2.2 j hj))⟩
            ⟨rfl, by show cs 2 ++ _ = _; rw [HM2.out.2.2.2.1], fun j hj => List.mem_cons_of_mem _ (List.mem_cons_of_mem _ (HM2.out.2.2.2.2 j hj))⟩
            (by rw [HKF1.out]; exact List.mem_cons_of_mem _ List.mem_cons_self) (by rw [HKB1.out]; exact List.mem_cons_self)
        refine ⟨.inr ⟨e0, e1, e2, e3, e4, e5⟩, ?_⟩
        clear hown1 hown2' hb1 hg1 ho1 hgw10 hgg hold hon b0 b1 b2 b3 b4 b5 d0 d1 d2 d3 d4 d5 e2 e3 e4 e5 z0 z1 z2 z3 z4 z5 hrow2 hsep2
        (try simp only [Act.put, List.setIfInBounds_toArray, List.set_cons_zero, List.set_cons_succ])
        refine Late2.plan_store _ ?_ (by rfl) (by rfl) ?_ (.inl (by decide)) ?_
        rotate_left 1
        · go_simp; first | rfl | (refine And.intro ?_ ?_ <;> rfl)
        (try simp only [Act.put, List.setIfInBounds_toArray, List.set_cons_zero, List.set_cons_succ])
        refine Late2.plan_do _ ?_ ?_ (by rfl) (by rfl) ?_ (.inl (by decide)) ?_
        rotate_left 2
        · go_simp; first | rfl | (refine And.intro ?_ ?_ <;> rfl)
        (try simp only [Act.put, List.setIfInBounds_toArray, List.set_cons_zero, List.set_cons_succ])
        refine Late2.plan_store _ ?_ (by rfl) (by rfl) ?_ (.inl (by decide)) ?_
        rotate_left 1
        · go_simp; first | rfl | (refine And.intro ?_ ?_ <;> rfl)
        refine Late2.plan_end ?_
        (try simp only [Act.put, List.setIfInBounds_toArray, List.set_cons_zero, List.set_cons_succ])
        clear e0 e1 f1 f2
        go_wp2_with fail
        go_roundg (N - (i + 1))
        case measure => omega
        case rel => exact ⟨i + 1, by omega, rfl, by go_num, HF.out⟩
end Go.Proofs.Ytaacfjeddoekfaa
