import Derived.Test.YtaacfjeddoekfaaTl5
/- Sorting in place: merging, where one side has one element. (Printed by gen_sort3.py.) -/
namespace Go.Proofs.Ytaacfjeddoekfaa
open Go.RowKit
set_option linter.unusedVariables false

set_option maxRecDepth 100000 in
set_option maxHeartbeats 4000000 in
theorem merge_one_left {base g cap n N : Nat} {f : Nat → Int} {key : Int → Int} {w0 : World} (a m b : Nat) {cv : Value} (w : World) (h : IR w base g cap n f) (hC : Cmp w0 base N cv key) (hw : Below base w0 w) (ham : m = a + 1) (hmb : m < b) (hbn : b ≤ n) (hnb : n ≤ 4611686018427387904)
    (hpre : Pre key f a m b) (hran : ∀ k, k < n → 0 ≤ f k ∧ f k < N) :
    Calls Try.prog 73 #[.slice (some ⟨g, 0, none⟩) n cap, .int .i64 a, .int .i64 m, .int .i64 b, cv] w fun e w' => e = .returned (.tuple #[]) ∧ SrtTo w w' base g cap n key f a b := by
  obtain ⟨fc, lb, cf, rfl, heg, hcf, hcall⟩ := hC
  obtain ⟨hc1, hc2⟩ := h.caps
  have hbg := h.le.1
  unfold maxLen at hc2
  have H := Lib.hid h
  have HCF := Lib.hid hcf
  have HCALL := Lib.hid hcall
  have HW := Lib.hid hw
  have HPRE := Lib.hid hpre
  have HRAN := Lib.hid hran
  have HM := Lib.hid ham
  have ham1 : a < m := by omega
  have ham2 : m ≤ a + 1 := by omega
  have t1 : ((m : Int) - (a : Int) == 1) = true := by simp; omega
  clear h hcf hcall hw hpre hran ham
  go_enter Try.func73, Try.ntmps73
  go_wp2_with fail
  go_loopg [10, 11] (b - m) (fun gg si sj wr => ∃ (i j q : Nat), m ≤ i ∧ i ≤ j ∧ j ≤ b ∧ gg = j - i ∧ si = .int .i64 i ∧ sj = .int .i64 j ∧ wr = w.drewN q ∧ (∀ y, m ≤ y → y < i → key (f y) < key (f a)) ∧ (∀ y, j ≤ y → y < b → ¬ key (f y) < key (f a)))
  case atStart => exact ⟨m, b, 0, by omega, by omega, by omega, rfl, rfl, rfl, rfl, fun y h1 h2 => by omega, fun y h1 h2 => by omega⟩
  case round =>
    obtain ⟨i, j, q, hi, hij, hj, rfl, rfl, rfl, rfl, k1, k2⟩ := hrel
    have K1 := Lib.hid k1
    have K2 := Lib.hid k2
    clear k1 k2
    by_cases hlt : i < j
    · obtain ⟨c, hcd⟩ : ∃ c, c = (i + j) / 2 := ⟨_, rfl⟩
      have hcI : ((i : Int) + (j : Int)) / 2 = (c : Int) := by omega
      have hc3 : i ≤ c := by omega
      have hc4 : c < j := by omega
      have HCI := Lib.hid hcI
      clear hcI hcd
      by_cases hk : key (f c) < key (f a)
      · have hkk : Hid (key (f c) < key (f a)) := hk
        have x0 := H.out.cell (k := c) (by omega)
        have ia0 := fun w => idx_at (g := g) (c := cap) (x := (c : Int)) (i := c) (n := n) (by omega) (by omega) w
        have x1 := H.out.cell (k := a) (by omega)
        have ia1 := fun w => idx_at (g := g) (c := cap) (x := (a : Int)) (i := a) (n := n) (by omega) (by omega) w
        have HR1 := Lib.hid (HRAN.out (c) (by omega))
        have HR2 := Lib.hid (HRAN.out (a) (by omega))
        have hcmp : decide (cf (f (c)) (f (a)) < 0) = true := by
          rw [decide_eq_true_eq, HCF.out _ _ HR1.out.1 HR1.out.2 HR2.out.1 HR2.out.2]; exact hk
        have HCL : Hid (∀ m', Calls Try.prog fc (#[.int .i64 (f (c)), .int .i64 (f (a))] ++ lb) (w.drewN m') fun e W' => e = .returned (.int .i64 (cf (f (c)) (f (a)))) ∧ ∃ k, W' = (w.drewN m').drewN k) := fun m' => HCALL.out _ _ _ (below_dN HW.out) HR1.out.1 HR1.out.2 HR2.out.1 HR2.out.2
        clear hk
        go_upto_region 5 with fail
        rw [HCI.out]
        refine wp_region_seq (fun w' => ∃ k, w' = w.drewN k) (by kernel_rfl) (by kernel_rfl) ⟨q + 1, rfl⟩ ?_
        show Seq _ _ _ _ [_, _, _, _, _, _, _, _, _, _, _] _
        repeat (first
          | (refine seq_val ?_ (by rfl) ?_ ?_
             rotate_left 1
             · rintro w5 ⟨k5, rfl⟩; go_simp; first | done | with_reducible rfl
             (try simp only [Act.put, List.setIfInBounds_toArray, List.set_cons_zero, List.set_cons_succ]))
          | (refine seq_call ?_ ?_ ?_ (by rfl) ?_ ?_ ?_
             rotate_left 3
             · rintro w5 ⟨k5, rfl⟩; go_simp; (refine And.intro ?_ ?_ <;> rfl)
             · rintro w5 ⟨k5, rfl⟩
               refine Calls.mono (HCL.out k5) ?_
               rintro e W' ⟨rfl, m5, rfl⟩
               refine And.intro ?_ ⟨k5 + m5, World.drewN_drewN _ _ _⟩
               rfl
             (try simp only [Act.put, List.setIfInBounds_toArray, List.set_cons_zero, List.set_cons_succ])))
        refine seq_end ?_
        rintro w7 ⟨k7, rfl⟩
        go_wp2_with fail
        go_roundg (j - (c + 1))
        case measure => omega
        case rel => exact ⟨c + 1, j, _, by omega, by omega, hj, rfl, by go_num, rfl, rfl, fun y h1 h2 => by have l := HPRE.out.r.le h1 (show y ≤ c by omega) (by omega); have := hkk.out; omega, K2.out⟩
      · have hkk : Hid (¬ key (f c) < key (f a)) := hk
        have x0 := H.out.cell (k := c) (by omega)
        have ia0 := fun w => idx_at (g := g) (c := cap) (x := (c : Int)) (i := c) (n := n) (by omega) (by omega) w
        have x1 := H.out.cell (k := a) (by omega)
        have ia1 := fun w => idx_at (g := g) (c := cap) (x := (a : Int)) (i := a) (n := n) (by omega) (by omega) w
        have HR1 := Lib.hid (HRAN.out (c) (by omega))
        have HR2 := Lib.hid (HRAN.out (a) (by omega))
        have hcmp : decide (cf (f (c)) (f (a)) < 0) = false := by
          rw [decide_eq_false_iff_not, HCF.out _ _ HR1.out.1 HR1.out.2 HR2.out.1 HR2.out.2]; exact hk
        have HCL : Hid (∀ m', Calls Try.prog fc (#[.int .i64 (f (c)), .int .i64 (f (a))] ++ lb) (w.drewN m') fun e W' => e = .returned (.int .i64 (cf (f (c)) (f (a)))) ∧ ∃ k, W' = (w.drewN m').drewN k) := fun m' => HCALL.out _ _ _ (below_dN HW.out) HR1.out.1 HR1.out.2 HR2.out.1 HR2.out.2
        clear hk
        go_upto_region 5 with fail
        rw [HCI.out]
        refine wp_region_seq (fun w' => ∃ k, w' = w.drewN k) (by kernel_rfl) (by kernel_rfl) ⟨q + 1, rfl⟩ ?_
        show Seq _ _ _ _ [_, _, _, _, _, _, _, _, _, _, _] _
        repeat (first
          | (refine seq_val ?_ (by rfl) ?_ ?_
             rotate_left 1
             · rintro w5 ⟨k5, rfl⟩; go_simp; first | done | with_reducible rfl
             (try simp only [Act.put, List.setIfInBounds_toArray, List.set_cons_zero, List.set_cons_succ]))
          | (refine seq_call ?_ ?_ ?_ (by rfl) ?_ ?_ ?_
             rotate_left 3
             · rintro w5 ⟨k5, rfl⟩; go_simp; (refine And.intro ?_ ?_ <;> rfl)
             · rintro w5 ⟨k5, rfl⟩
               refine Calls.mono (HCL.out k5) ?_
               rintro e W' ⟨rfl, m5, rfl⟩
               refine And.intro ?_ ⟨k5 + m5, World.drewN_drewN _ _ _⟩
               rfl
             (try simp only [Act.put, List.setIfInBounds_toArray, List.set_cons_zero, List.set_cons_succ])))
        refine seq_end ?_
        rintro w7 ⟨k7, rfl⟩
        go_wp2_with fail
        go_roundg (c - i)
        case measure => omega
        case rel => exact ⟨i, c, _, hi, by omega, by omega, rfl, rfl, rfl, rfl, K1.out, fun y h1 h2 => by have l := HPRE.out.r.le (show m ≤ c by omega) h1 h2; have := hkk.out; omega⟩
    · obtain rfl : i = j := by omega
      clear hlt hij
      have HD : Hid (Sd key (rot f a m i) a b ∧ Rear f (rot f a m i) a b) := by
        have e := HM.out
        subst e
        exact one_left HPRE.out hi hj K1.out K2.out
      go_wp2_with fail
      go_loopg [13] (i - a) (fun gg sk wr => ∃ k : Nat, a ≤ k ∧ k + 1 ≤ i ∧ gg = i - k ∧ sk = .int .i64 k ∧ Srt w wr base g cap n (rot f a m (k + 1)))
      case atStart => exact ⟨a, by omega, by omega, rfl, rfl, ((Srt.refl H.out).dN _).of_eq (rot_none f (by omega) (by omega) (.inr (by omega))).symm⟩
      case round =>
        obtain ⟨k, hak, hki, rfl, rfl, hs⟩ := hrel
        have HS := Lib.hid hs
        clear hs
        by_cases hlt : k + 1 < i
        · have hlt2 : (k : Int) < (i : Int) - 1 := by omega
          have x0 := HS.out.2.2.cell (k := k) (by omega)
          have x1 := HS.out.2.2.cell (k := k + 1) (by omega)
          have z0 := HS.out.2.2.free k
          have z1 := HS.out.2.2.free (k + 1)
          have HSW := Lib.hid (HS.out.swap (i := k) (j := k + 1) (by omega) (by omega))
          have HSE : Hid (swp (rot f a m (k + 1)) k (k + 1) = rot f a m (k + 1 + 1)) := by
            have e := HM.out
            subst e
            exact rot_up f hak
          generalize hu : rot f a m (k + 1) k = u at *
          generalize hv : rot f a m (k + 1) (k + 1) = v at *
          clear hu hv
          go_wp2_with fail
          go_region
          go_wp2_with fail
          go_roundg (i - (k + 1))
          case measure => omega
          case rel => exact ⟨k + 1, by omega, by omega, rfl, by go_num, HSW.out.of_eq HSE.out⟩
        · have hlt2 : ¬ (k : Int) < (i : Int) - 1 := by omega
          have HE : Hid (rot f a m (k + 1) = rot f a m i) := by
            have e : k + 1 = i := by omega
            show _ = _
            rw [e]
          clear hlt
          go_wp2_with fail
          refine bodyPost_ret (results_none rfl _ _ _) rfl ?_
          exact ⟨rfl, _, HS.out.of_eq HE.out, HD.out.2, HD.out.1⟩

set_option maxRecDepth 100000 in
set_option maxHeartbeats 4000000 in
theorem merge_one_right {base g cap n N : Nat} {f : Nat → Int} {key : Int → Int} {w0 : World} (a m b : Nat) {cv : Value} (w : World) (h : IR w base g cap n f) (hC : Cmp w0 base N cv key) (hw : Below base w0 w) (ham : a + 1 < m) (hmb : b = m + 1) (hbn : b ≤ n) (hnb : n ≤ 4611686018427387904)
    (hpre : Pre key f a m b) (hran : ∀ k, k < n → 0 ≤ f k ∧ f k < N) :
    Calls Try.prog 73 #[.slice (some ⟨g, 0, none⟩) n cap, .int .i64 a, .int .i64 m, .int .i64 b, cv] w fun e w' => e = .returned (.tuple #[]) ∧ SrtTo w w' base g cap n key f a b := by
  obtain ⟨fc, lb, cf, rfl, heg, hcf, hcall⟩ := hC
  obtain ⟨hc1, hc2⟩ := h.caps
  have hbg := h.le.1
  unfold maxLen at hc2
  have H := Lib.hid h
  have HCF := Lib.hid hcf
  have HCALL := Lib.hid hcall
  have HW := Lib.hid hw
  have HPRE := Lib.hid hpre
  have HRAN := Lib.hid hran
  have HM := Lib.hid hmb
  have hmb1 : m < b := by omega
  have hmb2 : b ≤ m + 1 := by omega
  have t1 : ((m : Int) - (a : Int) == 1) = false := by simp; omega
  have t2 : ((b : Int) - (m : Int) == 1) = true := by simp; omega
  clear h hcf hcall hw hpre hran hmb
  go_enter Try.func73, Try.ntmps73
  go_wp2_with fail
  go_loopg [14, 15] (m - a) (fun gg si sj wr => ∃ (i j q : Nat), a ≤ i ∧ i ≤ j ∧ j ≤ m ∧ gg = j - i ∧ si = .int .i64 i ∧ sj = .int .i64 j ∧ wr = w.drewN q ∧ (∀ x, a ≤ x → x < i → ¬ key (f m) < key (f x)) ∧ (∀ x, j ≤ x → x < m → key (f m) < key (f x)))
  case atStart => exact ⟨a, m, 0, by omega, by omega, by omega, rfl, rfl, rfl, rfl, fun y h1 h2 => by omega, fun y h1 h2 => by omega⟩
  case round =>
    obtain ⟨i, j, q, hi, hij, hj, rfl, rfl, rfl, rfl, k1, k2⟩ := hrel
    have K1 := Lib.hid k1
    have K2 := Lib.hid k2
    clear k1 k2
    by_cases hlt : i < j
    · obtain ⟨c, hcd⟩ : ∃ c, c = (i + j) / 2 := ⟨_, rfl⟩
      have hcI : ((i : Int) + (j : Int)) / 2 = (c : Int) := by omega
      have hc3 : i ≤ c := by omega
      have hc4 : c < j := by omega
      have HCI := Lib.hid hcI
      clear hcI hcd
      by_cases hk : key (f m) < key (f c)
      · have hkk : Hid (key (f m) < key (f c)) := hk
        have x0 := H.out.cell (k := m) (by omega)
        have ia0 := fun w => idx_at (g := g) (c := cap) (x := (m : Int)) (i := m) (n := n) (by omega) (by omega) w
        have x1 := H.out.cell (k := c) (by omega)
        have ia1 := fun w => idx_at (g := g) (c := cap) (x := (c : Int)) (i := c) (n := n) (by omega) (by omega) w
        have HR1 := Lib.hid (HRAN.out (m) (by omega))
        have HR2 := Lib.hid (HRAN.out (c) (by omega))
        have hcmp : decide (cf (f (m)) (f (c)) < 0) = true := by
          rw [decide_eq_true_eq, HCF.out _ _ HR1.out.1 HR1.out.2 HR2.out.1 HR2.out.2]; exact hk
        have HCL : Hid (∀ m', Calls Try.prog fc (#[.int .i64 (f (m)), .int .i64 (f (c))] ++ lb) (w.drewN m') fun e W' => e = .returned (.int .i64 (cf (f (m)) (f (c)))) ∧ ∃ k, W' = (w.drewN m').drewN k) := fun m' => HCALL.out _ _ _ (below_dN HW.out) HR1.out.1 HR1.out.2 HR2.out.1 HR2.out.2
        clear hk
        go_upto_region 17 with fail
        rw [HCI.out]
        refine wp_region_seq (fun w' => ∃ k, w' = w.drewN k) (by kernel_rfl) (by kernel_rfl) ⟨q + 1, rfl⟩ ?_
        show Seq _ _ _ _ [_, _, _, _, _, _, _, _, _, _, _, _] _
        repeat (first
          | (refine seq_val ?_ (by rfl) ?_ ?_
             rotate_left 1
             · rintro w5 ⟨k5, rfl⟩; go_simp; first | done | with_reducible rfl
             (try simp only [Act.put, List.setIfInBounds_toArray, List.set_cons_zero, List.set_cons_succ]))
          | (refine seq_call ?_ ?_ ?_ (by rfl) ?_ ?_ ?_
             rotate_left 3
             · rintro w5 ⟨k5, rfl⟩; go_simp; (refine And.intro ?_ ?_ <;> rfl)
             · rintro w5 ⟨k5, rfl⟩
               refine Calls.mono (HCL.out k5) ?_
               rintro e W' ⟨rfl, m5, rfl⟩
               refine And.intro ?_ ⟨k5 + m5, World.drewN_drewN _ _ _⟩
               rfl
             (try simp only [Act.put, List.setIfInBounds_toArray, List.set_cons_zero, List.set_cons_succ])))
        refine seq_end ?_
        rintro w7 ⟨k7, rfl⟩
        go_wp2_with fail
        go_roundg (c - i)
        case measure => omega
        case rel => exact ⟨i, c, _, hi, by omega, by omega, rfl, rfl, rfl, rfl, K1.out, fun y h1 h2 => by have l := HPRE.out.l.le (show a ≤ c by omega) h1 h2; have := hkk.out; omega⟩
      · have hkk : Hid (¬ key (f m) < key (f c)) := hk
        have x0 := H.out.cell (k := m) (by omega)
        have ia0 := fun w => idx_at (g := g) (c := cap) (x := (m : Int)) (i := m) (n := n) (by omega) (by omega) w
        have x1 := H.out.cell (k := c) (by omega)
        have ia1 := fun w => idx_at (g := g) (c := cap) (x := (c : Int)) (i := c) (n := n) (by omega) (by omega) w
        have HR1 := Lib.hid (HRAN.out (m) (by omega))
        have HR2 := Lib.hid (HRAN.out (c) (by omega))
        have hcmp : decide (cf (f (m)) (f (c)) < 0) = false := by
          rw [decide_eq_false_iff_not, HCF.out _ _ HR1.out.1 HR1.out.2 HR2.out.1 HR2.out.2]; exact hk
        have HCL : Hid (∀ m', Calls Try.prog fc (#[.int .i64 (f (m)), .int .i64 (f (c))] ++ lb) (w.drewN m') fun e W' => e = .returned (.int .i64 (cf (f (m)) (f (c)))) ∧ ∃ k, W' = (w.drewN m').drewN k) := fun m' => HCALL.out _ _ _ (below_dN HW.out) HR1.out.1 HR1.out.2 HR2.out.1 HR2.out.2
        clear hk
        go_upto_region 17 with fail
        rw [HCI.out]
        refine wp_region_seq (fun w' => ∃ k, w' = w.drewN k) (by kernel_rfl) (by kernel_rfl) ⟨q + 1, rfl⟩ ?_
        show Seq _ _ _ _ [_, _, _, _, _, _, _, _, _, _, _, _] _
        repeat (first
          | (refine seq_val ?_ (by rfl) ?_ ?_
             rotate_left 1
             · rintro w5 ⟨k5, rfl⟩; go_simp; first | done | with_reducible rfl
             (try simp only [Act.put, List.setIfInBounds_toArray, List.set_cons_zero, List.set_cons_succ]))
          | (refine seq_call ?_ ?_ ?_ (by rfl) ?_ ?_ ?_
             rotate_left 3
             · rintro w5 ⟨k5, rfl⟩; go_simp; (refine And.intro ?_ ?_ <;> rfl)
             · rintro w5 ⟨k5, rfl⟩
               refine Calls.mono (HCL.out k5) ?_
               rintro e W' ⟨rfl, m5, rfl⟩
               refine And.intro ?_ ⟨k5 + m5, World.drewN_drewN _ _ _⟩
               rfl
             (try simp only [Act.put, List.setIfInBounds_toArray, List.set_cons_zero, List.set_cons_succ])))
        refine seq_end ?_
        rintro w7 ⟨k7, rfl⟩
        go_wp2_with fail
        go_roundg (j - (c + 1))
        case measure => omega
        case rel => exact ⟨c + 1, j, _, by omega, by omega, hj, rfl, by go_num, rfl, rfl, fun y h1 h2 => by have l := HPRE.out.l.le h1 (show y ≤ c by omega) (by omega); have := hkk.out; omega, K2.out⟩
    · obtain rfl : i = j := by omega
      clear hlt hij
      have HD : Hid (Sd key (rot f i m b) a b ∧ Rear f (rot f i m b) a b) := by
        have e := HM.out
        subst e
        exact one_right HPRE.out hi hj K1.out K2.out
      go_wp2_with fail
      go_loopg [17] m (fun gg sk wr => ∃ k : Nat, i ≤ k ∧ k ≤ m ∧ k = gg ∧ sk = .int .i64 k ∧ Srt w wr base g cap n (rot f k m b))
      case atStart => exact ⟨m, by omega, Nat.le_refl _, rfl, rfl, ((Srt.refl H.out).dN _).of_eq (rot_none f (Nat.le_refl _) (by omega) (.inl rfl)).symm⟩
      case round =>
        obtain ⟨k, hak, hki, rfl, rfl, hs⟩ := hrel
        have HS := Lib.hid hs
        clear hs
        by_cases hlt : i < k
        · have x0 := HS.out.2.2.cell (k := k) (by omega)
          have x1 := HS.out.2.2.cell (k := k - 1) (by omega)
          have z0 := HS.out.2.2.free k
          have z1 := HS.out.2.2.free (k - 1)
          have HSW := Lib.hid (HS.out.swap (i := k) (j := k - 1) (by omega) (by omega))
          have HSE : Hid (swp (rot f k m b) k (k - 1) = rot f (k - 1) m b) := by
            have e := HM.out
            subst e
            exact rot_down f (by omega) hki
          generalize hu : rot f k m b k = u at *
          generalize hv : rot f k m b (k - 1) = v at *
          clear hu hv
          go_wp2_with fail
          go_region
          go_wp2_with fail
          go_roundg (k - 1)
          case measure => omega
          case rel => exact ⟨k - 1, by omega, by omega, rfl, by show Value.int .i64 _ = _; congr 1; omega, HSW.out.of_eq HSE.out⟩
        · obtain rfl : i = k := by omega
          go_wp2_with fail
          refine bodyPost_ret (results_none rfl _ _ _) rfl ?_
          exact ⟨rfl, _, HS.out, HD.out.2, HD.out.1⟩
end Go.Proofs.Ytaacfjeddoekfaa
