/- Chapter 15: the walk of the reference's Dots. -/
import Derived.Test.YtmjhhaejiabkdaaDotsWalk1
namespace Go.Proofs.Ytmjhhaejiabkdaa
open Go.RowKit
set_option linter.unusedVariables false

/-- the picture fits -/
structure Fit (W : Nat) (N : Nat) : Prop where
  w1 : 1 ≤ W
  w2 : W ≤ 4096
  n : N ≤ 65536
  m : N % W = 0

theorem not_unfit {W : Int} {N : Nat} (h : ¬ unfit W N) : ∃ w : Nat, W = w ∧ Fit w N := by
  unfold unfit at h
  obtain ⟨w, rfl⟩ := Int.eq_ofNat_of_zero_le (show 0 ≤ W by omega)
  refine ⟨w, rfl, by omega, by omega, by omega, ?_⟩
  have h1 : (N : Int).tmod w = 0 := by
    by_cases e : (N : Int).tmod w = 0
    · exact e
    · exact absurd (.inr (.inr (.inr e))) h
  rw [Int.tmod_eq_emod_of_nonneg (by omega)] at h1
  omega

def badG (xs : List Int) : Prop := ∃ x ∈ xs, x < 0 ∨ 255 < x

theorem fit_mod {W N : Nat} (h : Fit W N) : ((N : Int) % (W : Int) != 0) = false := by
  have := h.m
  have e : (N : Int) % (W : Int) = ((N % W : Nat) : Int) := by omega
  rw [e, this]; rfl

set_option maxRecDepth 100000 in
set_option maxHeartbeats 1000000 in
theorem refDots_bad {W : Nat} {xs : List Int} {v : Value} {S : Nat → Prop} (w : World) (hv : Ints w S v xs) (hf : Fit W xs.length) (h : badG xs) :
    Calls Try.prog 8 #[.int .i64 W, v] w fun e w' => e = .returned (.tuple #[.slice none 0 0, .int .i64 0, .int .i64 3]) ∧ w = w' := by
  obtain ⟨A, c, rfl, hc1, hc2, hr⟩ := hv
  obtain ⟨x, hx, hxb⟩ := h
  unfold maxLen at hc2
  have hm := fit_mod hf
  obtain ⟨f1, f2, f3, _⟩ := hf
  obtain ⟨j, hj, rfl⟩ := List.getElem_of_mem hx
  go_enter Try.func8, Try.ntmps8
  go_wp2_with fail
  go_loop [39] (fun i => ∃ k : Nat, k ≤ j ∧ i = .int .i64 k) (fun i => xs.length - (intOf i).toNat)
  case atStart => exact ⟨0, Nat.zero_le _, rfl⟩
  case round =>
    obtain ⟨k, hk, rfl⟩ := hrel
    have hkx : k < xs.length := by omega
    obtain ⟨b, o, rfl, _, hcell⟩ := ints_cell hr hkx
    by_cases hkj : k = j
    · subst hkj
      generalize xs[k] = y at *
      clear hx
      go_wp2_with fail
      all_goals (go_ret3; exact ⟨rfl, rfl⟩)
    · by_cases hy : xs[k] < 0 ∨ 255 < xs[k]
      · generalize xs[k] = y at *
        go_wp2_with fail
        all_goals (go_ret3; exact ⟨rfl, rfl⟩)
      · have y1 : 0 ≤ xs[k] := by omega
        have y2 : xs[k] ≤ 255 := by omega
        generalize xs[k] = y at *
        clear hy
        go_wp2_with fail
        go_round
        case rel => exact ⟨k + 1, by omega, by go_num⟩
        case measure => simp [intOf]; omega

theorem lefs_get {W : Nat} {G : Nat → Int} {i j : Nat} (h : j < i) : ((lefs W G i).map (Value.int .i64))[j]? = some (.int .i64 (lef W G j)) := by
  rw [lefs_eq]; simp [h]

/-- what the dots are; what is lost -/
def dotsL (W : Nat) (G : Nat → Int) (k : Nat) : List Int := (List.range k).map fun i => dotOf (vv W G i)
theorem dotsL_succ (W : Nat) (G : Nat → Int) (k : Nat) : dotsL W G (k + 1) = dotsL W G k ++ [dotOf (vv W G k)] := by simp [dotsL, List.range_succ]
theorem dotsL_len (W : Nat) (G : Nat → Int) (k : Nat) : (dotsL W G k).length = k := by simp [dotsL]
def gOf (xs : List Int) (i : Nat) : Int := xs.getD i 0
theorem gOf_ok {xs : List Int} (h : ¬ badG xs) (i : Nat) : 0 ≤ gOf xs i ∧ gOf xs i ≤ 255 := by
  unfold gOf
  rw [List.getD_eq_getElem?_getD]
  by_cases hi : i < xs.length
  · rw [List.getElem?_eq_getElem hi]
    have : ¬ (xs[i] < 0 ∨ 255 < xs[i]) := fun hb => h ⟨xs[i], List.getElem_mem hi, hb⟩
    simp; omega
  · rw [List.getElem?_eq_none (by omega)]; simp
theorem gOf_get {xs : List Int} {i : Nat} (hi : i < xs.length) : xs[i] = gOf xs i := by
  unfold gOf; rw [List.getD_eq_getElem?_getD, List.getElem?_eq_getElem hi]; rfl

theorem lef_small {W N : Nat} {G : Nat → Int} (hW : 0 < W) (hG : ∀ i, 0 ≤ G i ∧ G i ≤ 255) (hN : N ≤ 65536) {i : Nat} (hi : i < N) : -262144 ≤ lef W G i ∧ lef W G i ≤ 262144 := by
  have := lef_bounds W G hW hG i
  omega
theorem lostAt_small {W N : Nat} {L : Nat → Int} {i : Nat} (h : -262144 ≤ L i ∧ L i ≤ 262144) : -1048576 ≤ lostAt W N L i ∧ lostAt W N L i ≤ 1048576 := by
  have := share_bounds h.1 h.2
  unfold lostAt
  (repeat' split) <;> omega
theorem lostS_small {W N : Nat} {L : Nat → Int} {k : Nat} (h : ∀ i, i < k → -262144 ≤ L i ∧ L i ≤ 262144) : -(1048576 * (k : Int)) ≤ lostS W N L k ∧ lostS W N L k ≤ 1048576 * (k : Int) := by
  induction k with
  | zero => simp [lostS]
  | succ k ih =>
    have h1 := ih fun i hi => h i (by omega)
    have h2 := lostAt_small (W := W) (N := N) (h k (by omega))
    simp only [lostS]
    omega

set_option maxRecDepth 100000 in
set_option maxHeartbeats 4000000 in
theorem refDots_ok {W : Nat} {xs : List Int} {v : Value} {S : Nat → Prop} (w : World) (hv : Ints w S v xs) (hS : ∀ b, S b → b < w.heap.size) (hf : Fit W xs.length) (h : ¬ badG xs) :
    Calls Try.prog 8 #[.int .i64 W, v] w fun e w' => ∃ out, e = .returned (.tuple #[out, .int .i64 (lostS W xs.length (lef W (gOf xs)) xs.length), .int .i64 0]) ∧
      w'.ownsRow w.heap.size 3 1 out xs.length ((dotsL W (gOf xs) xs.length).map (Value.int .i64)) ∧ Below w.heap.size w w' := by
  obtain ⟨A, c, rfl, hc1, hc2, hr⟩ := hv
  unfold maxLen at hc2
  have hm := fit_mod hf
  have hg := gOf_ok h
  have hgx : ∀ i (hi : i < xs.length), xs[i] = gOf xs i := fun i hi => gOf_get hi
  obtain ⟨f1, f2, f3, f4⟩ := hf
  have HL : Hid (∀ i, i < xs.length → -262144 ≤ lef W (gOf xs) i ∧ lef W (gOf xs) i ≤ 262144) := fun i hi => lef_small f1 hg f3 hi
  have HM := Lib.hid f4
  clear h f4
  have hgr : ∀ i, i < xs.length → ∃ b o, A = some ⟨b, o, none⟩ ∧ b < w.heap.size ∧ w.cell? ⟨b, o + i, none⟩ = some (.int .i64 (gOf xs i)) := fun i hi => by
    obtain ⟨b, o, e, hs, hx⟩ := ints_cell hr hi
    exact ⟨b, o, e, hS _ hs, by rw [hx, hgx i hi]⟩
  have HR := Lib.hid hgr
  have HG := Lib.hid hg
  clear hgr hr hgx hg
  generalize hN : xs.length = N at *
  generalize gOf xs = G at *
  clear hN
  go_enter Try.func8, Try.ntmps8
  go_wp2_with fail
  go_loop [39] (fun i => ∃ k : Nat, k ≤ N ∧ i = .int .i64 k) (fun i => N - (intOf i).toNat)
  case atStart => exact ⟨0, Nat.zero_le _, rfl⟩
  case round =>
    obtain ⟨k, hk, rfl⟩ := hrel
    by_cases hkN : k < N
    · obtain ⟨b, o, rfl, hbs, hcell⟩ := HR.out k hkN
      obtain ⟨y1, y2⟩ := HG.out k
      generalize G k = y at *
      go_wp2_with fail
      go_round
      case rel => exact ⟨k + 1, by omega, by go_num⟩
      case measure => simp [intOf]; omega
    · have hW0 : ¬ W = 0 := by omega
      have hWi : (1 : Int) ≤ (W : Int) := by omega
      have hqe : (N : Int) / (W : Int) = ((N / W : Nat) : Int) := by simp
      obtain ⟨Hh, hHh⟩ : ∃ Hh, Hh = N / W := ⟨_, rfl⟩
      rw [← hHh] at hqe
      have hHN : Hh ≤ N := by rw [hHh]; exact Nat.div_le_self _ _
      have HH := Lib.hid hHh
      clear hHh
      go_wp2_with fail
      clear hqe
      go_loopg [9, 10, 11, 56] N (fun g out left lost ctr wr => ∃ i : Nat, i ≤ N ∧ g = N - i ∧ ctr = .int .i64 i ∧ lost = .int .i64 (lostS W N (lef W G) i) ∧
        wr.ownsRow w.heap.size 3 1 out i ((dotsL W G i).map (Value.int .i64)) ∧ wr.ownsRow w.heap.size 3 1 left i ((lefs W G i).map (Value.int .i64)) ∧
        Apart out left ∧ Below w.heap.size w wr)
      case atStart => exact ⟨0, Nat.zero_le _, rfl, rfl, rfl, World.ownsRow_nil _ _ _ _, World.ownsRow_nil _ _ _ _, Apart.nil _, Below.refl _ _⟩
      case round =>
        obtain ⟨i, hi, rfl, rfl, rfl, hout, hleft, hne, hb⟩ := hrel
        by_cases hiN : i < N
        · obtain ⟨b, o, rfl, hbs, hcell⟩ := HR.out i hiN
          obtain ⟨y1, y2⟩ := HG.out i
          have hcell' : wr.cell? ⟨b, o + i, none⟩ = some (.int .i64 (G i)) := (hb.cell (p := ⟨b, o + i, none⟩) hbs).trans hcell
          have hx0 : (i : Int) % (W : Int) = ((i % W : Nat) : Int) := by simp
          have hy0 : (i : Int) / (W : Int) = ((i / W : Nat) : Int) := by simp
          obtain ⟨x, hx⟩ : ∃ x, x = i % W := ⟨_, rfl⟩
          obtain ⟨y, hy⟩ : ∃ y, y = i / W := ⟨_, rfl⟩
          have hxW : x < W := by rw [hx]; exact Nat.mod_lt _ (by omega)
          have hyi : y ≤ i := by rw [hy]; exact Nat.div_le_self _ _
          have hfr := first_row (W := W) (i := i) (by omega)
          have hlr := last_row (W := W) (N := N) (by omega) HM.out hiN
          rw [← hx] at hx0
          rw [← hy] at hy0 hfr
          rw [← hy, ← HH.out] at hlr
          have HX := Lib.hid hx
          have HY := Lib.hid hy
          have HFR := Lib.hid hfr
          have HLR := Lib.hid hlr
          clear hx hy hfr hlr hcell
          obtain ⟨A2, c2, rfl, hc3, hc4⟩ := own_form hleft
          unfold maxLen at hc4
          have HLi := HL.out i hiN
          have h0 : r0 W (lef W G) i = if 0 < x then s0 (lef W G (i - 1)) else 0 := by rw [r0, ← HX.out]
          have h1 : r1 W (lef W G) i = if W ≤ i ∧ x + 1 < W then s1 (lef W G (i - W + 1)) else 0 := by rw [r1, ← HX.out]
          have h3 : r3 W (lef W G) i = if W ≤ i ∧ 0 < x then s3 (lef W G (i - W - 1)) else 0 := by rw [r3, ← HX.out]
          have H0 := Lib.hid h0
          have H1 := Lib.hid h1
          have H3 := Lib.hid h3
          clear h0 h1 h3
          have b0 := share_bounds (HL.out (i - 1) (by omega)).1 (HL.out (i - 1) (by omega)).2
          have b2 := share_bounds (HL.out (i - W) (by omega)).1 (HL.out (i - W) (by omega)).2
          have b1 : W ≤ i ∧ x + 1 < W → _ := fun h => share_bounds (HL.out (i - W + 1) (by omega)).1 (HL.out (i - W + 1) (by omega)).2
          have b3 := share_bounds (HL.out (i - W - 1) (by omega)).1 (HL.out (i - W - 1) (by omega)).2
          have B0 := Lib.hid b0
          have B1 := Lib.hid b1
          have B2 := Lib.hid b2
          have B3 := Lib.hid b3
          have z0 : -262144 ≤ r0 W (lef W G) i ∧ r0 W (lef W G) i ≤ 262144 := by rw [H0.out]; split <;> omega
          clear b0 b1 b2 b3
          go_upto_if 70 with (go_quiet (fail))
          simp only [hx0]
          clear hx0 hy0
          go_cut [17] (fun v wx => v = .int .i64 (16 * G i + r0 W (lef W G) i) ∧ wx.ownsRow w.heap.size 3 1 u9 i ((dotsL W G i).map (Value.int .i64)) ∧
            wx.ownsRow w.heap.size 3 1 (.slice A2 i c2) i ((lefs W G i).map (Value.int .i64)) ∧ Below w.heap.size w wx)
          case first =>
            by_cases hx1 : 0 < x
            · have hi1 : 1 ≤ i := mod_pos_le W (by rw [← HX.out]; exact hx1)
              obtain ⟨ga, rfl, hg1, hg2, hcs⟩ := own_some hleft (by omega)
              have hc := hcs (i - 1) _ (lefs_get (by omega))
              have hl := HL.out (i - 1) (by omega)
              have E0 : Hid (r0 W (lef W G) i = s0 (lef W G (i - 1))) := by show _ = _; rw [H0.out, if_pos hx1]
              have i1 : (0 : Int) ≤ (i : Int) - 1 := by omega
              have i2 : (1 : Int) ≤ (i : Int) := by omega
              have i3 : ((i : Int) - 1).toNat = i - 1 := by omega
              have bb := B0.out.1
              clear hcs
              generalize lef W G (i - 1) = l at *
              go_wp2_with (go_at_call 18; refine (Share0 (by omega) (by omega) _).mono ?_; rintro e w' ⟨rfl, rfl⟩)
              go_meet
              exact ⟨by rw [E0.out], own_dN (own_al hout _), own_dN (own_al hleft _), below_dN (below_al hb (Nat.le_refl _) _)⟩
            · go_wp2_with fail
              go_meet
              exact ⟨by rw [H0.out, if_neg hx1]; simp, own_dN hout, own_dN hleft, below_dN hb⟩
          case rest =>
            clear hout hleft hb hcell'
            obtain ⟨rfl, hout, hleft, hb⟩ := hcut
            have z1 : -262144 ≤ r1 W (lef W G) i ∧ r1 W (lef W G) i ≤ 262144 := by rw [H1.out]; split <;> (try have := B1.out ‹_›) <;> omega
            have z2 : -262144 ≤ r2 W (lef W G) i ∧ r2 W (lef W G) i ≤ 262144 := by have := B2.out; rw [r2]; split <;> omega
            have z3 : -262144 ≤ r3 W (lef W G) i ∧ r3 W (lef W G) i ≤ 262144 := by have := B3.out; rw [H3.out]; split <;> omega
            go_upto_if 80 with fail
            go_cut [17] (fun v wx => v = .int .i64 (vv W G i) ∧ wx.ownsRow w.heap.size 3 1 u9 i ((dotsL W G i).map (Value.int .i64)) ∧
              wx.ownsRow w.heap.size 3 1 (.slice A2 i c2) i ((lefs W G i).map (Value.int .i64)) ∧ Below w.heap.size w wx)
            case first =>
              by_cases hy1 : 0 < y
              · have hWi' := HFR.out.1 hy1
                obtain ⟨ga, rfl, hg1, hg2, hcs⟩ := own_some hleft (by omega)
                have c2' := hcs (i - W) _ (lefs_get (by omega))
                have l2 := HL.out (i - W) (by omega)
                have E2 : Hid (r2 W (lef W G) i = s2 (lef W G (i - W))) := by show _ = _; rw [r2, if_pos hWi']
                have j1 : (0 : Int) ≤ (i : Int) - W := by omega
                have j3 : ((i : Int) - W).toNat = i - W := by omega
                have bb2 := B2.out.2.2.1
                by_cases hx1 : 0 < x
                · have hxi : W + 1 ≤ i := mod_pos_W W (by omega) (by rw [← HX.out]; exact hx1) hWi'
                  have c3' := hcs (i - W - 1) _ (lefs_get (by omega))
                  have l3 := HL.out (i - W - 1) (by omega)
                  have E3 : Hid (r3 W (lef W G) i = s3 (lef W G (i - W - 1))) := by show _ = _; rw [H3.out, if_pos ⟨hWi', hx1⟩]
                  have k1 : (0 : Int) ≤ (i : Int) - W - 1 := by omega
                  have k2 : (1 : Int) ≤ (i : Int) - W := by omega
                  have k3 : ((i : Int) - W - 1).toNat = i - W - 1 := by omega
                  have bb3 := B3.out.2.2.2
                  by_cases hx2 : x + 1 < W
                  · have c1' := hcs (i - W + 1) _ (lefs_get (by omega))
                    have l1 := HL.out (i - W + 1) (by omega)
                    have E1 : Hid (r1 W (lef W G) i = s1 (lef W G (i - W + 1))) := by show _ = _; rw [H1.out, if_pos ⟨hWi', hx2⟩]
                    have m1 : (0 : Int) ≤ (i : Int) - W + 1 := by omega
                    have m3 : ((i : Int) - W + 1).toNat = i - W + 1 := by omega
                    have bb1 := (B1.out ⟨hWi', hx2⟩).2.1
                    clear hcs
                    generalize lef W G (i - W) = q2 at *
                    generalize lef W G (i - W - 1) = q3 at *
                    generalize lef W G (i - W + 1) = q1 at *
                    go_wp2_with (go_at_call 18; first | ((with_reducible refine (Share2 (by omega) (by omega) _).mono ?_); rintro e w' ⟨rfl, rfl⟩) | ((with_reducible refine (Share1 (by omega) (by omega) _).mono ?_); rintro e w' ⟨rfl, rfl⟩) | ((with_reducible refine (Share3 (by omega) (by omega) _).mono ?_); rintro e w' ⟨rfl, rfl⟩))
                    go_meet
                    exact ⟨congrArg (Value.int .i64) (by unfold vv vG; rw [E1.out, E2.out, E3.out]; omega), (by repeat (first | exact hout | exact hleft | apply own_al | apply own_dN)), (by repeat (first | exact hout | exact hleft | apply own_al | apply own_dN)), (by repeat (first | exact hb | apply below_dN | refine below_al ?_ (Nat.le_refl _) _))⟩
                  · have E1 : Hid (r1 W (lef W G) i = 0) := by show _ = _; rw [H1.out, if_neg (fun h => hx2 h.2)]
                    clear hcs
                    generalize lef W G (i - W) = q2 at *
                    generalize lef W G (i - W - 1) = q3 at *
                    generalize lef W G (i - W + 1) = q1 at *
                    go_wp2_with (go_at_call 18; first | ((with_reducible refine (Share2 (by omega) (by omega) _).mono ?_); rintro e w' ⟨rfl, rfl⟩) | ((with_reducible refine (Share1 (by omega) (by omega) _).mono ?_); rintro e w' ⟨rfl, rfl⟩) | ((with_reducible refine (Share3 (by omega) (by omega) _).mono ?_); rintro e w' ⟨rfl, rfl⟩))
                    go_meet
                    exact ⟨congrArg (Value.int .i64) (by unfold vv vG; rw [E1.out, E2.out, E3.out]; omega), (by repeat (first | exact hout | exact hleft | apply own_al | apply own_dN)), (by repeat (first | exact hout | exact hleft | apply own_al | apply own_dN)), (by repeat (first | exact hb | apply below_dN | refine below_al ?_ (Nat.le_refl _) _))⟩
                · have E3 : Hid (r3 W (lef W G) i = 0) := by show _ = _; rw [H3.out, if_neg (fun h => hx1 h.2)]
                  by_cases hx2 : x + 1 < W
                  · have c1' := hcs (i - W + 1) _ (lefs_get (by omega))
                    have l1 := HL.out (i - W + 1) (by omega)
                    have E1 : Hid (r1 W (lef W G) i = s1 (lef W G (i - W + 1))) := by show _ = _; rw [H1.out, if_pos ⟨hWi', hx2⟩]
                    have m1 : (0 : Int) ≤ (i : Int) - W + 1 := by omega
                    have m3 : ((i : Int) - W + 1).toNat = i - W + 1 := by omega
                    have bb1 := (B1.out ⟨hWi', hx2⟩).2.1
                    clear hcs
                    generalize lef W G (i - W) = q2 at *
                    generalize lef W G (i - W - 1) = q3 at *
                    generalize lef W G (i - W + 1) = q1 at *
                    go_wp2_with (go_at_call 18; first | ((with_reducible refine (Share2 (by omega) (by omega) _).mono ?_); rintro e w' ⟨rfl, rfl⟩) | ((with_reducible refine (Share1 (by omega) (by omega) _).mono ?_); rintro e w' ⟨rfl, rfl⟩) | ((with_reducible refine (Share3 (by omega) (by omega) _).mono ?_); rintro e w' ⟨rfl, rfl⟩))
                    go_meet
                    exact ⟨congrArg (Value.int .i64) (by unfold vv vG; rw [E1.out, E2.out, E3.out]; omega), (by repeat (first | exact hout | exact hleft | apply own_al | apply own_dN)), (by repeat (first | exact hout | exact hleft | apply own_al | apply own_dN)), (by repeat (first | exact hb | apply below_dN | refine below_al ?_ (Nat.le_refl _) _))⟩
                  · have E1 : Hid (r1 W (lef W G) i = 0) := by show _ = _; rw [H1.out, if_neg (fun h => hx2 h.2)]
                    clear hcs
                    generalize lef W G (i - W) = q2 at *
                    generalize lef W G (i - W - 1) = q3 at *
                    generalize lef W G (i - W + 1) = q1 at *
                    go_wp2_with (go_at_call 18; first | ((with_reducible refine (Share2 (by omega) (by omega) _).mono ?_); rintro e w' ⟨rfl, rfl⟩) | ((with_reducible refine (Share1 (by omega) (by omega) _).mono ?_); rintro e w' ⟨rfl, rfl⟩) | ((with_reducible refine (Share3 (by omega) (by omega) _).mono ?_); rintro e w' ⟨rfl, rfl⟩))
                    go_meet
                    exact ⟨congrArg (Value.int .i64) (by unfold vv vG; rw [E1.out, E2.out, E3.out]; omega), (by repeat (first | exact hout | exact hleft | apply own_al | apply own_dN)), (by repeat (first | exact hout | exact hleft | apply own_al | apply own_dN)), (by repeat (first | exact hb | apply below_dN | refine below_al ?_ (Nat.le_refl _) _))⟩
              · have E1 : Hid (r1 W (lef W G) i = 0) := by show _ = _; rw [H1.out, if_neg (fun h => hy1 (HFR.out.2 h.1))]
                have E2 : Hid (r2 W (lef W G) i = 0) := by show _ = _; rw [r2, if_neg (fun h => hy1 (HFR.out.2 h))]
                have E3 : Hid (r3 W (lef W G) i = 0) := by show _ = _; rw [H3.out, if_neg (fun h => hy1 (HFR.out.2 h.1))]
                go_wp2_with fail
                go_meet
                exact ⟨congrArg (Value.int .i64) (by unfold vv vG; rw [E1.out, E2.out, E3.out]; omega), (by repeat (first | exact hout | exact hleft | apply own_al | apply own_dN)), (by repeat (first | exact hout | exact hleft | apply own_al | apply own_dN)), (by repeat (first | exact hb | apply below_dN | refine below_al ?_ (Nat.le_refl _) _))⟩
            case rest =>
              clear hout hleft hb
              obtain ⟨rfl, hout, hleft, hb⟩ := hcut
              have zv : -2000000 ≤ vv W G i ∧ vv W G i ≤ 2000000 := by unfold vv vG; omega
              have hle := lef_eq W G (by omega) i
              have HLE := Lib.hid hle
              clear hle z0 z1 z2 z3
              go_upto_if 118 with fail
              go_cut [18] (fun d wx => d = .int .i64 (dotOf (vv W G i)) ∧ wx.ownsRow w.heap.size 3 1 u9 i ((dotsL W G i).map (Value.int .i64)) ∧
                wx.ownsRow w.heap.size 3 1 (.slice A2 i c2) i ((lefs W G i).map (Value.int .i64)) ∧ Below w.heap.size w wx)
              case first =>
                have HD : Hid (dotOf (vv W G i) = if 4080 ≤ 2 * vv W G i then 255 else 0) := rfl
                by_cases hv : 4080 ≤ 2 * vv W G i
                · go_wp2_with fail
                  go_meet
                  exact ⟨by rw [HD.out, if_pos hv], hout, hleft, hb⟩
                · go_wp2_with fail
                  go_meet
                  exact ⟨by rw [HD.out, if_neg (by omega)], hout, hleft, hb⟩
              case rest =>
                clear hout hleft hb
                obtain ⟨rfl, hout, hleft, hb⟩ := hcut
                have zd := dot_01 (vv W G i)
                have zl : vv W G i - 16 * dotOf (vv W G i) = lef W G i := HLE.out.symm
                have hLA : lostAt W N (lef W G) i = (if x + 1 = W then s0 (lef W G i) else 0) + (if x = 0 ∨ N ≤ i + W then s1 (lef W G i) else 0) + (if N ≤ i + W then s2 (lef W G i) else 0) + (if x + 1 = W ∨ N ≤ i + W then s3 (lef W G i) else 0) := by
                  unfold lostAt; rw [← HX.out]
                have hLS := lostS_small (W := W) (N := N) (L := lef W G) (k := i) (fun j hj => HL.out j (by omega))
                have hds := dotsL_succ W G i
                have hls : lefs W G (i + 1) = lefs W G i ++ [lef W G i] := by rw [lefs_eq, lefs_eq, List.range_succ]; simp
                have bs := share_bounds HLi.1 HLi.2
                have hlS : lostS W N (lef W G) (i + 1) = lostS W N (lef W G) i + lostAt W N (lef W G) i := rfl
                have HLA := Lib.hid hLA
                have HDS := Lib.hid hds
                have HLS := Lib.hid hls
                have HlS := Lib.hid hlS
                have hne' : Apart u9 (.slice A2 i c2) := hne
                clear hLA hds hls hlS hne
                have hd0 : 0 ≤ dotOf (vv W G i) ∧ dotOf (vv W G i) ≤ 255 := by omega
                clear zd
                generalize dotOf (vv W G i) = d at *
                generalize lostAt W N (lef W G) i = LA at *
                generalize lostS W N (lef W G) i = LS at *
                generalize hlv : lef W G i = l at *
                go_upto_if 133 with (at_builtin
                                     first
                                     | (refine app_el T22 [.int .i64 d] hout hb (Nat.le_refl _) rfl rfl rfl rfl rfl (by simp [Value.oneCell']) (by omega) ?_
                                        intro v1 w1 hown1 hb1 hg1 ho1
                                        have hleft1 := hne'.kept hleft hg1
                                        have hap1 := hne'.next hleft (Nat.le_succ _) ho1)
                                     | (refine app_el T22 [.int .i64 l] hleft1 hb1 (Nat.le_refl _) rfl rfl rfl rfl rfl (by simp [Value.oneCell']) (by omega) ?_
                                        intro v2 w2 hown2 hb2 hg2 ho2
                                        have hout2 := hap1.symm.kept hown1 hg2
                                        have hap2 := hap1.symm.next hown1 (Nat.le_succ _) ho2
                                        obtain ⟨A5, c5, rfl, hc5, hc6⟩ := own_form hown2
                                        obtain ⟨ga, rfl, hg1', hg2', hcs⟩ := own_some hown2 (by omega)
                                        have hcl := hcs i (.int .i64 l) (by rw [List.getElem?_append_right (by simp [lefs_len])]; simp [lefs_len])
                                        have hcl3 : ∀ o1 o2 o3, (((w2.alloc o1).alloc o2).alloc o3).cell? ⟨ga, i, none⟩ = some (.int .i64 l) := fun o1 o2 o3 => by
                                          rw [World.cell?_alloc_lt _ _ _ (by simp; omega), World.cell?_alloc_lt _ _ _ (by simp; omega), World.cell?_alloc_lt _ _ _ hg2', hcl]
                                        have HAP := Lib.hid hap2.symm
                                        unfold maxLen at hc6
                                        clear hcs hown1 hleft1 hap1 hap2 hg1 hg2 ho1 ho2 hb1))
                clear hout hleft hb zl hlv HLE H0 H1 H3 B0 B1 B2 B3 hne'
                have hend : N - (i + 1) < N - i := by omega
                by_cases e1 : x + 1 = W
                · have t1 : ((x : Int) + 1 == (W : Int)) = true := by simp; omega
                  have HE1 := Lib.hid e1
                  clear e1
                  by_cases e2 : x = 0
                  · have t2 : ((x : Int) == 0) = true := by simp; omega
                    have HE2 := Lib.hid e2
                    clear e2
                    by_cases e3 : N ≤ i + W
                    · have t3 : ((y : Int) + 1 == (Hh : Int)) = true := by
                        have := HLR.out
                        simp; omega
                      have HE3 := Lib.hid e3
                      clear e3
                      go_wp2_with (go_at_call 18; first | ((with_reducible refine (Share0 (by omega) (by omega) _).mono ?_); rintro e w' ⟨rfl, rfl⟩) | ((with_reducible refine (Share2 (by omega) (by omega) _).mono ?_); rintro e w' ⟨rfl, rfl⟩) | ((with_reducible refine (Share1 (by omega) (by omega) _).mono ?_); rintro e w' ⟨rfl, rfl⟩) | ((with_reducible refine (Share3 (by omega) (by omega) _).mono ?_); rintro e w' ⟨rfl, rfl⟩))
                      go_roundg (N - (i + 1))
                      case measure => exact hend
                      case rel => exact ⟨i + 1, by omega, rfl, by go_num, congrArg (Value.int .i64) (by rw [HlS.out, HLA.out]; rw [if_pos HE1.out, if_pos (c := x = 0 ∨ N ≤ i + W) (by have := HE2.out; have := HE3.out; omega), if_pos (c := N ≤ i + W) HE3.out, if_pos (c := x + 1 = W ∨ N ≤ i + W) (by have := HE1.out; have := HE3.out; omega)]; omega), by rw [HDS.out, List.map_append]; repeat (first | exact hout2 | apply own_al | apply own_dN), by rw [HLS.out, List.map_append]; repeat (first | exact hown2 | apply own_al | apply own_dN), HAP.out, by repeat (first | exact hb2 | apply below_dN | refine below_al ?_ (Nat.le_refl _) _)⟩
                    · have t3 : ((y : Int) + 1 == (Hh : Int)) = false := by
                        have := HLR.out
                        simp; omega
                      have HE3 := Lib.hid e3
                      clear e3
                      go_wp2_with (go_at_call 18; first | ((with_reducible refine (Share0 (by omega) (by omega) _).mono ?_); rintro e w' ⟨rfl, rfl⟩) | ((with_reducible refine (Share2 (by omega) (by omega) _).mono ?_); rintro e w' ⟨rfl, rfl⟩) | ((with_reducible refine (Share1 (by omega) (by omega) _).mono ?_); rintro e w' ⟨rfl, rfl⟩) | ((with_reducible refine (Share3 (by omega) (by omega) _).mono ?_); rintro e w' ⟨rfl, rfl⟩))
                      go_roundg (N - (i + 1))
                      case measure => exact hend
                      case rel => exact ⟨i + 1, by omega, rfl, by go_num, congrArg (Value.int .i64) (by rw [HlS.out, HLA.out]; rw [if_pos HE1.out, if_pos (c := x = 0 ∨ N ≤ i + W) (by have := HE2.out; have := HE3.out; omega), if_neg (c := N ≤ i + W) HE3.out, if_pos (c := x + 1 = W ∨ N ≤ i + W) (by have := HE1.out; have := HE3.out; omega)]; omega), by rw [HDS.out, List.map_append]; repeat (first | exact hout2 | apply own_al | apply own_dN), by rw [HLS.out, List.map_append]; repeat (first | exact hown2 | apply own_al | apply own_dN), HAP.out, by repeat (first | exact hb2 | apply below_dN | refine below_al ?_ (Nat.le_refl _) _)⟩
                  · have t2 : ((x : Int) == 0) = false := by simp; omega
                    have HE2 := Lib.hid e2
                    clear e2
                    by_cases e3 : N ≤ i + W
                    · have t3 : ((y : Int) + 1 == (Hh : Int)) = true := by
                        have := HLR.out
                        simp; omega
                      have HE3 := Lib.hid e3
                      clear e3
                      go_wp2_with (go_at_call 18; first | ((with_reducible refine (Share0 (by omega) (by omega) _).mono ?_); rintro e w' ⟨rfl, rfl⟩) | ((with_reducible refine (Share2 (by omega) (by omega) _).mono ?_); rintro e w' ⟨rfl, rfl⟩) | ((with_reducible refine (Share1 (by omega) (by omega) _).mono ?_); rintro e w' ⟨rfl, rfl⟩) | ((with_reducible refine (Share3 (by omega) (by omega) _).mono ?_); rintro e w' ⟨rfl, rfl⟩))
                      go_roundg (N - (i + 1))
                      case measure => exact hend
                      case rel => exact ⟨i + 1, by omega, rfl, by go_num, congrArg (Value.int .i64) (by rw [HlS.out, HLA.out]; rw [if_pos HE1.out, if_pos (c := x = 0 ∨ N ≤ i + W) (by have := HE2.out; have := HE3.out; omega), if_pos (c := N ≤ i + W) HE3.out, if_pos (c := x + 1 = W ∨ N ≤ i + W) (by have := HE1.out; have := HE3.out; omega)]; omega), by rw [HDS.out, List.map_append]; repeat (first | exact hout2 | apply own_al | apply own_dN), by rw [HLS.out, List.map_append]; repeat (first | exact hown2 | apply own_al | apply own_dN), HAP.out, by repeat (first | exact hb2 | apply below_dN | refine below_al ?_ (Nat.le_refl _) _)⟩
                    · have t3 : ((y : Int) + 1 == (Hh : Int)) = false := by
                        have := HLR.out
                        simp; omega
                      have HE3 := Lib.hid e3
                      clear e3
                      go_wp2_with (go_at_call 18; first | ((with_reducible refine (Share0 (by omega) (by omega) _).mono ?_); rintro e w' ⟨rfl, rfl⟩) | ((with_reducible refine (Share2 (by omega) (by omega) _).mono ?_); rintro e w' ⟨rfl, rfl⟩) | ((with_reducible refine (Share1 (by omega) (by omega) _).mono ?_); rintro e w' ⟨rfl, rfl⟩) | ((with_reducible refine (Share3 (by omega) (by omega) _).mono ?_); rintro e w' ⟨rfl, rfl⟩))
                      go_roundg (N - (i + 1))
                      case measure => exact hend
                      case rel => exact ⟨i + 1, by omega, rfl, by go_num, congrArg (Value.int .i64) (by rw [HlS.out, HLA.out]; rw [if_pos HE1.out, if_neg (c := x = 0 ∨ N ≤ i + W) (by have := HE2.out; have := HE3.out; omega), if_neg (c := N ≤ i + W) HE3.out, if_pos (c := x + 1 = W ∨ N ≤ i + W) (by have := HE1.out; have := HE3.out; omega)]; omega), by rw [HDS.out, List.map_append]; repeat (first | exact hout2 | apply own_al | apply own_dN), by rw [HLS.out, List.map_append]; repeat (first | exact hown2 | apply own_al | apply own_dN), HAP.out, by repeat (first | exact hb2 | apply below_dN | refine below_al ?_ (Nat.le_refl _) _)⟩
                · have t1 : ((x : Int) + 1 == (W : Int)) = false := by simp; omega
                  have HE1 := Lib.hid e1
                  clear e1
                  by_cases e2 : x = 0
                  · have t2 : ((x : Int) == 0) = true := by simp; omega
                    have HE2 := Lib.hid e2
                    clear e2
                    by_cases e3 : N ≤ i + W
                    · have t3 : ((y : Int) + 1 == (Hh : Int)) = true := by
                        have := HLR.out
                        simp; omega
                      have HE3 := Lib.hid e3
                      clear e3
                      go_wp2_with (go_at_call 18; first | ((with_reducible refine (Share0 (by omega) (by omega) _).mono ?_); rintro e w' ⟨rfl, rfl⟩) | ((with_reducible refine (Share2 (by omega) (by omega) _).mono ?_); rintro e w' ⟨rfl, rfl⟩) | ((with_reducible refine (Share1 (by omega) (by omega) _).mono ?_); rintro e w' ⟨rfl, rfl⟩) | ((with_reducible refine (Share3 (by omega) (by omega) _).mono ?_); rintro e w' ⟨rfl, rfl⟩))
                      go_roundg (N - (i + 1))
                      case measure => exact hend
                      case rel => exact ⟨i + 1, by omega, rfl, by go_num, congrArg (Value.int .i64) (by rw [HlS.out, HLA.out]; rw [if_neg HE1.out, if_pos (c := x = 0 ∨ N ≤ i + W) (by have := HE2.out; have := HE3.out; omega), if_pos (c := N ≤ i + W) HE3.out, if_pos (c := x + 1 = W ∨ N ≤ i + W) (by have := HE1.out; have := HE3.out; omega)]; omega), by rw [HDS.out, List.map_append]; repeat (first | exact hout2 | apply own_al | apply own_dN), by rw [HLS.out, List.map_append]; repeat (first | exact hown2 | apply own_al | apply own_dN), HAP.out, by repeat (first | exact hb2 | apply below_dN | refine below_al ?_ (Nat.le_refl _) _)⟩
                    · have t3 : ((y : Int) + 1 == (Hh : Int)) = false := by
                        have := HLR.out
                        simp; omega
                      have HE3 := Lib.hid e3
                      clear e3
                      go_wp2_with (go_at_call 18; first | ((with_reducible refine (Share0 (by omega) (by omega) _).mono ?_); rintro e w' ⟨rfl, rfl⟩) | ((with_reducible refine (Share2 (by omega) (by omega) _).mono ?_); rintro e w' ⟨rfl, rfl⟩) | ((with_reducible refine (Share1 (by omega) (by omega) _).mono ?_); rintro e w' ⟨rfl, rfl⟩) | ((with_reducible refine (Share3 (by omega) (by omega) _).mono ?_); rintro e w' ⟨rfl, rfl⟩))
                      go_roundg (N - (i + 1))
                      case measure => exact hend
                      case rel => exact ⟨i + 1, by omega, rfl, by go_num, congrArg (Value.int .i64) (by rw [HlS.out, HLA.out]; rw [if_neg HE1.out, if_pos (c := x = 0 ∨ N ≤ i + W) (by have := HE2.out; have := HE3.out; omega), if_neg (c := N ≤ i + W) HE3.out, if_neg (c := x + 1 = W ∨ N ≤ i + W) (by have := HE1.out; have := HE3.out; omega)]; omega), by rw [HDS.out, List.map_append]; repeat (first | exact hout2 | apply own_al | apply own_dN), by rw [HLS.out, List.map_append]; repeat (first | exact hown2 | apply own_al | apply own_dN), HAP.out, by repeat (first | exact hb2 | apply below_dN | refine below_al ?_ (Nat.le_refl _) _)⟩
                  · have t2 : ((x : Int) == 0) = false := by simp; omega
                    have HE2 := Lib.hid e2
                    clear e2
                    by_cases e3 : N ≤ i + W
                    · have t3 : ((y : Int) + 1 == (Hh : Int)) = true := by
                        have := HLR.out
                        simp; omega
                      have HE3 := Lib.hid e3
                      clear e3
                      go_wp2_with (go_at_call 18; first | ((with_reducible refine (Share0 (by omega) (by omega) _).mono ?_); rintro e w' ⟨rfl, rfl⟩) | ((with_reducible refine (Share2 (by omega) (by omega) _).mono ?_); rintro e w' ⟨rfl, rfl⟩) | ((with_reducible refine (Share1 (by omega) (by omega) _).mono ?_); rintro e w' ⟨rfl, rfl⟩) | ((with_reducible refine (Share3 (by omega) (by omega) _).mono ?_); rintro e w' ⟨rfl, rfl⟩))
                      go_roundg (N - (i + 1))
                      case measure => exact hend
                      case rel => exact ⟨i + 1, by omega, rfl, by go_num, congrArg (Value.int .i64) (by rw [HlS.out, HLA.out]; rw [if_neg HE1.out, if_pos (c := x = 0 ∨ N ≤ i + W) (by have := HE2.out; have := HE3.out; omega), if_pos (c := N ≤ i + W) HE3.out, if_pos (c := x + 1 = W ∨ N ≤ i + W) (by have := HE1.out; have := HE3.out; omega)]; omega), by rw [HDS.out, List.map_append]; repeat (first | exact hout2 | apply own_al | apply own_dN), by rw [HLS.out, List.map_append]; repeat (first | exact hown2 | apply own_al | apply own_dN), HAP.out, by repeat (first | exact hb2 | apply below_dN | refine below_al ?_ (Nat.le_refl _) _)⟩
                    · have t3 : ((y : Int) + 1 == (Hh : Int)) = false := by
                        have := HLR.out
                        simp; omega
                      have HE3 := Lib.hid e3
                      clear e3
                      go_wp2_with (go_at_call 18; first | ((with_reducible refine (Share0 (by omega) (by omega) _).mono ?_); rintro e w' ⟨rfl, rfl⟩) | ((with_reducible refine (Share2 (by omega) (by omega) _).mono ?_); rintro e w' ⟨rfl, rfl⟩) | ((with_reducible refine (Share1 (by omega) (by omega) _).mono ?_); rintro e w' ⟨rfl, rfl⟩) | ((with_reducible refine (Share3 (by omega) (by omega) _).mono ?_); rintro e w' ⟨rfl, rfl⟩))
                      go_roundg (N - (i + 1))
                      case measure => exact hend
                      case rel => exact ⟨i + 1, by omega, rfl, by go_num, congrArg (Value.int .i64) (by rw [HlS.out, HLA.out]; rw [if_neg HE1.out, if_neg (c := x = 0 ∨ N ≤ i + W) (by have := HE2.out; have := HE3.out; omega), if_neg (c := N ≤ i + W) HE3.out, if_neg (c := x + 1 = W ∨ N ≤ i + W) (by have := HE1.out; have := HE3.out; omega)]; omega), by rw [HDS.out, List.map_append]; repeat (first | exact hout2 | apply own_al | apply own_dN), by rw [HLS.out, List.map_append]; repeat (first | exact hown2 | apply own_al | apply own_dN), HAP.out, by repeat (first | exact hb2 | apply below_dN | refine below_al ?_ (Nat.le_refl _) _)⟩
        · have e : i = N := by omega
          subst e
          go_wp2_with fail
          go_ret3
          exact ⟨_, rfl, hout, hb⟩
end Go.Proofs.Ytmjhhaejiabkdaa
