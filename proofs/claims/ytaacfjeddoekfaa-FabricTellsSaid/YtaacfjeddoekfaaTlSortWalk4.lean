import Derived.Test.YtaacfjeddoekfaaTlSortWalk3
/- Sorting in place: merging, the third way; the whole. (Printed by gen_sort3.py.) -/
namespace Go.Proofs.Ytaacfjeddoekfaa
open Go.RowKit
set_option linter.unusedVariables false

def CutAll (key : Int → Int) (f : Nat → Int) (a m b mid s0 r0 : Nat) : Prop :=
  ∀ s, s0 ≤ s → s ≤ r0 → (∀ c, s0 ≤ c → c < s → ¬ key (f (mid + m - 1 - c)) < key (f c)) → (∀ c, s ≤ c → c < r0 → key (f (mid + m - 1 - c)) < key (f c)) → Cut key f a s m (mid + m - s) b
/-- merging of what is narrower than z -/
def MergeOK (w0 : World) (base g cap n N : Nat) (cv : Value) (key : Int → Int) (z : Nat) : Prop := ∀ (a m b : Nat) (f : Nat → Int) (w : World), b - a < z → a < m → m < b → b ≤ n → IR w base g cap n f → Below base w0 w → Pre key f a m b → (∀ k, k < n → 0 ≤ f k ∧ f k < N) →
  Calls Try.prog 73 #[.slice (some ⟨g, 0, none⟩) n cap, .int .i64 a, .int .i64 m, .int .i64 b, cv] w fun e w' => e = .returned (.tuple #[]) ∧ SrtTo w w' base g cap n key f a b
theorem Rear.range {f g : Nat → Int} {a b n N : Nat} (h : Rear f g a b) (hb : b ≤ n) (hr : ∀ k, k < n → 0 ≤ f k ∧ f k < N) : ∀ k, k < n → 0 ≤ g k ∧ g k < N := fun k hk => by
  by_cases h1 : a ≤ k ∧ k < b
  · obtain ⟨j, _, h3, e⟩ := h.in_ h1.1 h1.2
    rw [e]; exact hr j (by omega)
  · rw [h.out (by omega)]; exact hr k hk
theorem Pre.congr {key : Int → Int} {f g : Nat → Int} {a m b : Nat} (h : Pre key f a m b) (h1 : a ≤ m) (h2 : m ≤ b) (e : ∀ k, a ≤ k → k < b → g k = f k) : Pre key g a m b :=
  ⟨h.l.congr fun k p q => e k p (by omega), h.r.congr fun k p q => e k (by omega) q, h.lo.congr e h2⟩

set_option maxRecDepth 100000 in
set_option maxHeartbeats 4000000 in
theorem merge_many {base g cap n N : Nat} {f : Nat → Int} {key : Int → Int} {w0 : World} (a m b : Nat) {cv : Value} (w : World) (h : IR w base g cap n f) (hC : Cmp w0 base N cv key) (hw : Below base w0 w) (ham : a + 1 < m) (hmb : m + 1 < b) (hbn : b ≤ n) (hnb : n ≤ 4611686018427387904)
    (hpre : Pre key f a m b) (IH : MergeOK w0 base g cap n N cv key (b - a)) (hran : ∀ k, k < n → 0 ≤ f k ∧ f k < N) :
    Calls Try.prog 73 #[.slice (some ⟨g, 0, none⟩) n cap, .int .i64 a, .int .i64 m, .int .i64 b, cv] w fun e w' => e = .returned (.tuple #[]) ∧ SrtTo w w' base g cap n key f a b := by
  have HIH := Lib.hid IH
  clear IH
  obtain ⟨fc, lb, cf, rfl, heg, hcf, hcall⟩ := hC
  obtain ⟨hc1, hc2⟩ := h.caps
  have hbg := h.le.1
  unfold maxLen at hc2
  have H := Lib.hid h
  have HCF := Lib.hid hcf
  have HCALL := Lib.hid hcall
  have HW := Lib.hid hw
  have HPRE := Lib.hid hpre
  have HRAN := Lib.hid hran
  have t1 : ((m : Int) - (a : Int) == 1) = false := by simp; omega
  have t2 : ((b : Int) - (m : Int) == 1) = false := by simp; omega
  clear h hcf hcall hw hpre hran
  obtain ⟨mid, hmid⟩ : ∃ mid, mid = (a + b) / 2 := ⟨_, rfl⟩
  have hmidI : Hid (((a : Int) + (b : Int)) / 2 = (mid : Int)) := by show _ = _; omega
  have hma : a < mid := by omega
  have hmbb : mid < b := by omega
  obtain ⟨s0, r0, h0⟩ : ∃ s0 r0, (m > mid ∧ s0 = mid + m - b ∧ r0 = mid) ∨ (m ≤ mid ∧ s0 = a ∧ r0 = m) := by
    by_cases h : m > mid
    · exact ⟨_, _, .inl ⟨h, rfl, rfl⟩⟩
    · exact ⟨_, _, .inr ⟨by omega, rfl, rfl⟩⟩
  have HCUT : CutAll key f a m b mid s0 r0 := fun s h1 h2 k1 k2 => search_cut HPRE.out hmid (by omega) (by omega) h0 h1 h2 k1 k2
  have HS6 : Hid (m > mid → b ≤ mid + m) := fun _ => by omega
  have hs1 : a ≤ s0 := by omega
  have hs2 : s0 ≤ r0 := by omega
  have hs3 : r0 ≤ m := by omega
  have hs4 : mid + m ≤ b + s0 := by omega
  have hs5 : r0 ≤ mid := by omega
  clear hmid
  rcases h0 with ⟨g1, g2, g3⟩ | ⟨g1, g2, g3⟩
  · have G2 := Lib.hid g2
    have G3 := Lib.hid g3
    have hdm : decide (mid < m) = true := by simpa using g1
    clear g2 g3
    go_enter Try.func73, Try.ntmps73
    go_upto_region 25 with fail
    rw [hmidI.out]
    go_wp2_with fail
    go_loopg [20, 21] (r0 - s0) (fun gg si sj wr => ∃ (s r q : Nat), s0 ≤ s ∧ s ≤ r ∧ r ≤ r0 ∧ gg = r - s ∧ si = .int .i64 s ∧ sj = .int .i64 r ∧ wr = w.drewN q ∧ (∀ c, s0 ≤ c → c < s → ¬ key (f (mid + m - 1 - c)) < key (f c)) ∧ (∀ c, r ≤ c → c < r0 → key (f (mid + m - 1 - c)) < key (f c)))
    case atStart => exact ⟨s0, r0, 0, Nat.le_refl _, hs2, Nat.le_refl _, rfl, by show Value.int .i64 _ = _; congr 1; (have := G2.out; have := G3.out; have := HS6.out; omega), by show Value.int .i64 _ = _; congr 1; (have := G2.out; have := G3.out; have := HS6.out; omega), rfl, fun y h1 h2 => by omega, fun y h1 h2 => by omega⟩
    case round =>
      obtain ⟨s, r, q, hi, hij, hj, rfl, rfl, rfl, rfl, k1, k2⟩ := hrel
      have K1 := Lib.hid k1
      have K2 := Lib.hid k2
      clear k1 k2
      by_cases hlt : s < r
      · obtain ⟨c, hcd⟩ : ∃ c, c = (s + r) / 2 := ⟨_, rfl⟩
        have hcI : ((s : Int) + (r : Int)) / 2 = (c : Int) := by omega
        have hc3 : s ≤ c := by omega
        have hc4 : c < r := by omega
        have HCI := Lib.hid hcI
        clear hcI hcd
        obtain ⟨pc, hpc⟩ : ∃ pc, pc = mid + m - 1 - c := ⟨_, rfl⟩
        have HPC := Lib.hid hpc
        have hpcI : (mid : Int) + (m : Int) - 1 - (c : Int) = (pc : Int) := by omega
        have hpc1 : m ≤ pc := by omega
        have hpc2 : pc < b := by omega
        have HPCI := Lib.hid hpcI
        clear hpcI hpc
        have hw1 : IntKind.i64.wrap ((mid : Int) + (m : Int) - 1 - (c : Int)) = (pc : Int) := by rw [HPCI.out]; exact IntWalk.i64_in _ (by omega)
        by_cases hk : key (f pc) < key (f c)
        · have hkk : Hid (key (f pc) < key (f c)) := hk
          have x0 := H.out.cell (k := pc) (by omega)
          have ia0 := fun w => idx_at (g := g) (c := cap) (x := (pc : Int)) (i := pc) (n := n) (by omega) (by omega) w
          have x1 := H.out.cell (k := c) (by omega)
          have ia1 := fun w => idx_at (g := g) (c := cap) (x := (c : Int)) (i := c) (n := n) (by omega) (by omega) w
          have HR1 := Lib.hid (HRAN.out (pc) (by omega))
          have HR2 := Lib.hid (HRAN.out (c) (by omega))
          have hcmp : decide (cf (f (pc)) (f (c)) < 0) = true := by
            rw [decide_eq_true_eq, HCF.out _ _ HR1.out.1 HR1.out.2 HR2.out.1 HR2.out.2]; exact hk
          have HCL : Hid (∀ m', Calls Try.prog fc (#[.int .i64 (f (pc)), .int .i64 (f (c))] ++ lb) (w.drewN m') fun e W' => e = .returned (.int .i64 (cf (f (pc)) (f (c)))) ∧ ∃ k, W' = (w.drewN m').drewN k) := fun m' => HCALL.out _ _ _ (below_dN HW.out) HR1.out.1 HR1.out.2 HR2.out.1 HR2.out.2
          clear hk
          go_upto_region 35 with fail
          rw [HCI.out]
          refine wp_region_seq (fun w' => ∃ k, w' = w.drewN k) (by kernel_rfl) (by kernel_rfl) ⟨q + 1, rfl⟩ ?_
          show Seq _ _ _ _ [_, _, _, _, _, _, _, _, _, _, _, _, _, _] _
          repeat (first
            | (refine seq_val ?_ (by rfl) ?_ ?_
               rotate_left 1
               · rintro w5 ⟨k5, rfl⟩; go_simp; first | done | with_reducible rfl
               (try simp only [Act.put, List.setIfInBounds_toArray, List.set_cons_zero, List.set_cons_succ]))
            | (refine seq_call ?_ ?_ ?_ (by rfl) ?_ ?_ ?_
               rotate_left 3
               · rintro w5 ⟨k5, rfl⟩; go_simp; (refine And.intro ?_ ?_ <;> rfl)
               · rintro w5 ⟨k5, rfl⟩
                 refine Calls.mono (HCL.out k5) ?_
                 rintro e W' ⟨rfl, m5, rfl⟩
                 refine And.intro ?_ ⟨k5 + m5, World.drewN_drewN _ _ _⟩
                 rfl
               (try simp only [Act.put, List.setIfInBounds_toArray, List.set_cons_zero, List.set_cons_succ])))
          refine seq_end ?_
          rintro w7 ⟨k7, rfl⟩
          go_wp2_with fail
          go_roundg (c - s)
          case measure => omega
          case rel => exact ⟨s, c, _, hi, by omega, by omega, rfl, rfl, rfl, rfl, K1.out, fun y h1 h2 => by
            have l1 := HPRE.out.l.le (show a ≤ c by omega) h1 (by omega)
            have l2 := HPRE.out.r.le (show m ≤ mid + m - 1 - y by omega) (show mid + m - 1 - y ≤ pc by rw [HPC.out]; omega) hpc2
            have := hkk.out
            rw [HPC.out] at this l2
            omega⟩
        · have hkk : Hid (¬ key (f pc) < key (f c)) := hk
          have x0 := H.out.cell (k := pc) (by omega)
          have ia0 := fun w => idx_at (g := g) (c := cap) (x := (pc : Int)) (i := pc) (n := n) (by omega) (by omega) w
          have x1 := H.out.cell (k := c) (by omega)
          have ia1 := fun w => idx_at (g := g) (c := cap) (x := (c : Int)) (i := c) (n := n) (by omega) (by omega) w
          have HR1 := Lib.hid (HRAN.out (pc) (by omega))
          have HR2 := Lib.hid (HRAN.out (c) (by omega))
          have hcmp : decide (cf (f (pc)) (f (c)) < 0) = false := by
            rw [decide_eq_false_iff_not, HCF.out _ _ HR1.out.1 HR1.out.2 HR2.out.1 HR2.out.2]; exact hk
          have HCL : Hid (∀ m', Calls Try.prog fc (#[.int .i64 (f (pc)), .int .i64 (f (c))] ++ lb) (w.drewN m') fun e W' => e = .returned (.int .i64 (cf (f (pc)) (f (c)))) ∧ ∃ k, W' = (w.drewN m').drewN k) := fun m' => HCALL.out _ _ _ (below_dN HW.out) HR1.out.1 HR1.out.2 HR2.out.1 HR2.out.2
          clear hk
          go_upto_region 35 with fail
          rw [HCI.out]
          refine wp_region_seq (fun w' => ∃ k, w' = w.drewN k) (by kernel_rfl) (by kernel_rfl) ⟨q + 1, rfl⟩ ?_
          show Seq _ _ _ _ [_, _, _, _, _, _, _, _, _, _, _, _, _, _] _
          repeat (first
            | (refine seq_val ?_ (by rfl) ?_ ?_
               rotate_left 1
               · rintro w5 ⟨k5, rfl⟩; go_simp; first | done | with_reducible rfl
               (try simp only [Act.put, List.setIfInBounds_toArray, List.set_cons_zero, List.set_cons_succ]))
            | (refine seq_call ?_ ?_ ?_ (by rfl) ?_ ?_ ?_
               rotate_left 3
               · rintro w5 ⟨k5, rfl⟩; go_simp; (refine And.intro ?_ ?_ <;> rfl)
               · rintro w5 ⟨k5, rfl⟩
                 refine Calls.mono (HCL.out k5) ?_
                 rintro e W' ⟨rfl, m5, rfl⟩
                 refine And.intro ?_ ⟨k5 + m5, World.drewN_drewN _ _ _⟩
                 rfl
               (try simp only [Act.put, List.setIfInBounds_toArray, List.set_cons_zero, List.set_cons_succ])))
          refine seq_end ?_
          rintro w7 ⟨k7, rfl⟩
          go_wp2_with fail
          go_roundg (r - (c + 1))
          case measure => omega
          case rel => exact ⟨c + 1, r, _, by omega, by omega, hj, rfl, by go_num, rfl, rfl, fun y h1 h2 => by
            have l1 := HPRE.out.l.le (show a ≤ y by omega) (show y ≤ c by omega) (by omega)
            have l2 := HPRE.out.r.le hpc1 (show pc ≤ mid + m - 1 - y by rw [HPC.out]; omega) (by omega)
            have := hkk.out
            rw [HPC.out] at this l2
            omega, K2.out⟩
      · obtain rfl : s = r := by omega
        clear hlt hij
        have HC := Lib.hid (HCUT s hi hj K1.out K2.out)
        obtain ⟨e, he⟩ : ∃ e, e = mid + m - s := ⟨_, rfl⟩
        rw [← he] at HC
        have heI : Hid ((mid : Int) + (m : Int) - (s : Int) = (e : Int)) := by show _ = _; omega
        have hes : Hid (s + (e - m) = mid) := by show _ = _; omega
        have he1 : m ≤ e := by omega
        have he2 : e ≤ b := by omega
        have hsm : s ≤ m := by omega
        have hsa : a ≤ s := by omega
        have hsmid : s ≤ mid := by omega
        have hmide : mid ≤ e := by omega
        have hes2 : s = m → e = mid := by omega
        clear he K1 K2
        have HL := cut_left HPRE.out HC.out
        have HR := cut_right HPRE.out HC.out
        have HD := fun g1 g2 => @cut_done key f a s m e b HPRE.out HC.out g1 g2
        rw [hes.out] at HL HR HD
        have HL := Lib.hid HL
        have HR := Lib.hid HR
        have HD := Lib.hid HD
        have HRR := Lib.hid (((Rear.rot f hsm he1).mono hsa he2).range hbn HRAN.out)
        go_upto_region 39 with fail
        rw [heI.out]
        by_cases hrot : s < m ∧ m < e
        · obtain ⟨hr1, hr2⟩ := hrot
          go_wp2_with fail
          refine (rotate_any s m e _ _ (H.out.dN _) hr1 hr2 (by omega)).mono ?_
          rintro e' w2 ⟨rfl, hs2'⟩
          have HS2 := Lib.hid (((Srt.refl H.out).dN q).trans hs2')
          clear hs2' hr1 hr2 hes2
          generalize rot f s m e = h at *
          have HB2 := Lib.hid (HS2.out.below HW.out hbg)
          by_cases hq1 : a < s ∧ s < mid
          · obtain ⟨hq11, hq12⟩ := hq1
            go_wp2_with fail
            refine (HIH.out a s mid h _ (by omega) hq11 hq12 (by omega) HS2.out.2.2 HB2.out HL.out HRR.out).mono ?_
            rintro e' w3 ⟨rfl, g1, gs, gr, gd⟩
            have HS3 := Lib.hid (HS2.out.trans gs)
            have GR := Lib.hid gr
            have GD := Lib.hid gd
            clear gs gr gd hq11 hq12
            have HB3 := Lib.hid (HS3.out.below HW.out hbg)
            have HR3 := Lib.hid (HR.out.congr hmide he2 (fun k p _ => GR.out.out (.inr p)))
            by_cases hq2 : mid < e ∧ e < b
            · obtain ⟨hq21, hq22⟩ := hq2
              go_wp2_with fail
              all_goals
                refine (HIH.out mid e b _ _ (by omega) hq21 hq22 hbn HS3.out.2.2 HB3.out HR3.out (GR.out.range (by omega) HRR.out)).mono ?_
                rintro e' w4 ⟨rfl, g2, gs2, gr2, gd2⟩
                have HS4 := Lib.hid (HS3.out.trans gs2)
                have HF := Lib.hid (HD.out _ g2 GR.out GD.out gr2 gd2)
                clear gs2 gr2 gd2
                go_wp2_with fail
                all_goals (go_end0; exact ⟨rfl, g2, HS4.out, HF.out.2, HF.out.1⟩)
            · have hq2' : ¬ mid < e ∨ ¬ e < b := by omega
              have HF := Lib.hid (HD.out _ _ GR.out GD.out (Rear.refl _ mid b) (HR3.out.left hq2 hmide he2))
              clear hq2
              rcases hq2' with hq2' | hq2'
              all_goals
                go_wp2_with fail
                all_goals (go_end0; exact ⟨rfl, _, HS3.out, HF.out.2, HF.out.1⟩)
          · have hq1' : ¬ a < s ∨ ¬ s < mid := by omega
            have GR := Lib.hid (Rear.refl h a mid)
            have GD := Lib.hid (HL.out.left hq1 hsa hsmid)
            have HS3 := Lib.hid HS2.out
            clear hq1
            rcases hq1' with hq1' | hq1'
            all_goals
              have HB3 := Lib.hid (HS3.out.below HW.out hbg)
              have HR3 := Lib.hid (HR.out.congr hmide he2 (fun k p _ => GR.out.out (.inr p)))
              by_cases hq2 : mid < e ∧ e < b
              · obtain ⟨hq21, hq22⟩ := hq2
                go_wp2_with fail
                all_goals
                  refine (HIH.out mid e b _ _ (by omega) hq21 hq22 hbn HS3.out.2.2 HB3.out HR3.out (GR.out.range (by omega) HRR.out)).mono ?_
                  rintro e' w4 ⟨rfl, g2, gs2, gr2, gd2⟩
                  have HS4 := Lib.hid (HS3.out.trans gs2)
                  have HF := Lib.hid (HD.out _ g2 GR.out GD.out gr2 gd2)
                  clear gs2 gr2 gd2
                  go_wp2_with fail
                  all_goals (go_end0; exact ⟨rfl, g2, HS4.out, HF.out.2, HF.out.1⟩)
              · have hq2' : ¬ mid < e ∨ ¬ e < b := by omega
                have HF := Lib.hid (HD.out _ _ GR.out GD.out (Rear.refl _ mid b) (HR3.out.left hq2 hmide he2))
                clear hq2
                rcases hq2' with hq2' | hq2'
                all_goals
                  go_wp2_with fail
                  all_goals (go_end0; exact ⟨rfl, _, HS3.out, HF.out.2, HF.out.1⟩)
        · have hrot' : ¬ s < m ∨ ¬ m < e := by omega
          have HE : Hid (rot f s m e = f) := rot_none f hsm he1 (by omega)
          have HS2 := Lib.hid (((Srt.refl H.out).dN q).of_eq HE.out.symm)
          clear hrot hes2 HE
          generalize rot f s m e = h at *
          rcases hrot' with hrot' | hrot'
          all_goals
            have HB2 := Lib.hid (HS2.out.below HW.out hbg)
            by_cases hq1 : a < s ∧ s < mid
            · obtain ⟨hq11, hq12⟩ := hq1
              go_wp2_with fail
              refine (HIH.out a s mid h _ (by omega) hq11 hq12 (by omega) HS2.out.2.2 HB2.out HL.out HRR.out).mono ?_
              rintro e' w3 ⟨rfl, g1, gs, gr, gd⟩
              have HS3 := Lib.hid (HS2.out.trans gs)
              have GR := Lib.hid gr
              have GD := Lib.hid gd
              clear gs gr gd hq11 hq12
              have HB3 := Lib.hid (HS3.out.below HW.out hbg)
              have HR3 := Lib.hid (HR.out.congr hmide he2 (fun k p _ => GR.out.out (.inr p)))
              by_cases hq2 : mid < e ∧ e < b
              · obtain ⟨hq21, hq22⟩ := hq2
                go_wp2_with fail
                all_goals
                  refine (HIH.out mid e b _ _ (by omega) hq21 hq22 hbn HS3.out.2.2 HB3.out HR3.out (GR.out.range (by omega) HRR.out)).mono ?_
                  rintro e' w4 ⟨rfl, g2, gs2, gr2, gd2⟩
                  have HS4 := Lib.hid (HS3.out.trans gs2)
                  have HF := Lib.hid (HD.out _ g2 GR.out GD.out gr2 gd2)
                  clear gs2 gr2 gd2
                  go_wp2_with fail
                  all_goals (go_end0; exact ⟨rfl, g2, HS4.out, HF.out.2, HF.out.1⟩)
              · have hq2' : ¬ mid < e ∨ ¬ e < b := by omega
                have HF := Lib.hid (HD.out _ _ GR.out GD.out (Rear.refl _ mid b) (HR3.out.left hq2 hmide he2))
                clear hq2
                rcases hq2' with hq2' | hq2'
                all_goals
                  go_wp2_with fail
                  all_goals (go_end0; exact ⟨rfl, _, HS3.out, HF.out.2, HF.out.1⟩)
            · have hq1' : ¬ a < s ∨ ¬ s < mid := by omega
              have GR := Lib.hid (Rear.refl h a mid)
              have GD := Lib.hid (HL.out.left hq1 hsa hsmid)
              have HS3 := Lib.hid HS2.out
              clear hq1
              rcases hq1' with hq1' | hq1'
              all_goals
                have HB3 := Lib.hid (HS3.out.below HW.out hbg)
                have HR3 := Lib.hid (HR.out.congr hmide he2 (fun k p _ => GR.out.out (.inr p)))
                by_cases hq2 : mid < e ∧ e < b
                · obtain ⟨hq21, hq22⟩ := hq2
                  go_wp2_with fail
                  all_goals
                    refine (HIH.out mid e b _ _ (by omega) hq21 hq22 hbn HS3.out.2.2 HB3.out HR3.out (GR.out.range (by omega) HRR.out)).mono ?_
                    rintro e' w4 ⟨rfl, g2, gs2, gr2, gd2⟩
                    have HS4 := Lib.hid (HS3.out.trans gs2)
                    have HF := Lib.hid (HD.out _ g2 GR.out GD.out gr2 gd2)
                    clear gs2 gr2 gd2
                    go_wp2_with fail
                    all_goals (go_end0; exact ⟨rfl, g2, HS4.out, HF.out.2, HF.out.1⟩)
                · have hq2' : ¬ mid < e ∨ ¬ e < b := by omega
                  have HF := Lib.hid (HD.out _ _ GR.out GD.out (Rear.refl _ mid b) (HR3.out.left hq2 hmide he2))
                  clear hq2
                  rcases hq2' with hq2' | hq2'
                  all_goals
                    go_wp2_with fail
                    all_goals (go_end0; exact ⟨rfl, _, HS3.out, HF.out.2, HF.out.1⟩)
  · have G2 := Lib.hid g2
    have G3 := Lib.hid g3
    have hdm : decide (mid < m) = false := by simpa using g1
    clear g2 g3
    go_enter Try.func73, Try.ntmps73
    go_upto_region 25 with fail
    rw [hmidI.out]
    go_wp2_with fail
    go_loopg [20, 21] (r0 - s0) (fun gg si sj wr => ∃ (s r q : Nat), s0 ≤ s ∧ s ≤ r ∧ r ≤ r0 ∧ gg = r - s ∧ si = .int .i64 s ∧ sj = .int .i64 r ∧ wr = w.drewN q ∧ (∀ c, s0 ≤ c → c < s → ¬ key (f (mid + m - 1 - c)) < key (f c)) ∧ (∀ c, r ≤ c → c < r0 → key (f (mid + m - 1 - c)) < key (f c)))
    case atStart => exact ⟨s0, r0, 0, Nat.le_refl _, hs2, Nat.le_refl _, rfl, by show Value.int .i64 _ = _; congr 1; (have := G2.out; have := G3.out; have := HS6.out; omega), by show Value.int .i64 _ = _; congr 1; (have := G2.out; have := G3.out; have := HS6.out; omega), rfl, fun y h1 h2 => by omega, fun y h1 h2 => by omega⟩
    case round =>
      obtain ⟨s, r, q, hi, hij, hj, rfl, rfl, rfl, rfl, k1, k2⟩ := hrel
      have K1 := Lib.hid k1
      have K2 := Lib.hid k2
      clear k1 k2
      by_cases hlt : s < r
      · obtain ⟨c, hcd⟩ : ∃ c, c = (s + r) / 2 := ⟨_, rfl⟩
        have hcI : ((s : Int) + (r : Int)) / 2 = (c : Int) := by omega
        have hc3 : s ≤ c := by omega
        have hc4 : c < r := by omega
        have HCI := Lib.hid hcI
        clear hcI hcd
        obtain ⟨pc, hpc⟩ : ∃ pc, pc = mid + m - 1 - c := ⟨_, rfl⟩
        have HPC := Lib.hid hpc
        have hpcI : (mid : Int) + (m : Int) - 1 - (c : Int) = (pc : Int) := by omega
        have hpc1 : m ≤ pc := by omega
        have hpc2 : pc < b := by omega
        have HPCI := Lib.hid hpcI
        clear hpcI hpc
        have hw1 : IntKind.i64.wrap ((mid : Int) + (m : Int) - 1 - (c : Int)) = (pc : Int) := by rw [HPCI.out]; exact IntWalk.i64_in _ (by omega)
        by_cases hk : key (f pc) < key (f c)
        · have hkk : Hid (key (f pc) < key (f c)) := hk
          have x0 := H.out.cell (k := pc) (by omega)
          have ia0 := fun w => idx_at (g := g) (c := cap) (x := (pc : Int)) (i := pc) (n := n) (by omega) (by omega) w
          have x1 := H.out.cell (k := c) (by omega)
          have ia1 := fun w => idx_at (g := g) (c := cap) (x := (c : Int)) (i := c) (n := n) (by omega) (by omega) w
          have HR1 := Lib.hid (HRAN.out (pc) (by omega))
          have HR2 := Lib.hid (HRAN.out (c) (by omega))
          have hcmp : decide (cf (f (pc)) (f (c)) < 0) = true := by
            rw [decide_eq_true_eq, HCF.out _ _ HR1.out.1 HR1.out.2 HR2.out.1 HR2.out.2]; exact hk
          have HCL : Hid (∀ m', Calls Try.prog fc (#[.int .i64 (f (pc)), .int .i64 (f (c))] ++ lb) (w.drewN m') fun e W' => e = .returned (.int .i64 (cf (f (pc)) (f (c)))) ∧ ∃ k, W' = (w.drewN m').drewN k) := fun m' => HCALL.out _ _ _ (below_dN HW.out) HR1.out.1 HR1.out.2 HR2.out.1 HR2.out.2
          clear hk
          go_upto_region 35 with fail
          rw [HCI.out]
          refine wp_region_seq (fun w' => ∃ k, w' = w.drewN k) (by kernel_rfl) (by kernel_rfl) ⟨q + 1, rfl⟩ ?_
          show Seq _ _ _ _ [_, _, _, _, _, _, _, _, _, _, _, _, _, _] _
          repeat (first
            | (refine seq_val ?_ (by rfl) ?_ ?_
               rotate_left 1
               · rintro w5 ⟨k5, rfl⟩; go_simp; first | done | with_reducible rfl
               (try simp only [Act.put, List.setIfInBounds_toArray, List.set_cons_zero, List.set_cons_succ]))
            | (refine seq_call ?_ ?_ ?_ (by rfl) ?_ ?_ ?_
               rotate_left 3
               · rintro w5 ⟨k5, rfl⟩; go_simp; (refine And.intro ?_ ?_ <;> rfl)
               · rintro w5 ⟨k5, rfl⟩
                 refine Calls.mono (HCL.out k5) ?_
                 rintro e W' ⟨rfl, m5, rfl⟩
                 refine And.intro ?_ ⟨k5 + m5, World.drewN_drewN _ _ _⟩
                 rfl
               (try simp only [Act.put, List.setIfInBounds_toArray, List.set_cons_zero, List.set_cons_succ])))
          refine seq_end ?_
          rintro w7 ⟨k7, rfl⟩
          go_wp2_with fail
          go_roundg (c - s)
          case measure => omega
          case rel => exact ⟨s, c, _, hi, by omega, by omega, rfl, rfl, rfl, rfl, K1.out, fun y h1 h2 => by
            have l1 := HPRE.out.l.le (show a ≤ c by omega) h1 (by omega)
            have l2 := HPRE.out.r.le (show m ≤ mid + m - 1 - y by omega) (show mid + m - 1 - y ≤ pc by rw [HPC.out]; omega) hpc2
            have := hkk.out
            rw [HPC.out] at this l2
            omega⟩
        · have hkk : Hid (¬ key (f pc) < key (f c)) := hk
          have x0 := H.out.cell (k := pc) (by omega)
          have ia0 := fun w => idx_at (g := g) (c := cap) (x := (pc : Int)) (i := pc) (n := n) (by omega) (by omega) w
          have x1 := H.out.cell (k := c) (by omega)
          have ia1 := fun w => idx_at (g := g) (c := cap) (x := (c : Int)) (i := c) (n := n) (by omega) (by omega) w
          have HR1 := Lib.hid (HRAN.out (pc) (by omega))
          have HR2 := Lib.hid (HRAN.out (c) (by omega))
          have hcmp : decide (cf (f (pc)) (f (c)) < 0) = false := by
            rw [decide_eq_false_iff_not, HCF.out _ _ HR1.out.1 HR1.out.2 HR2.out.1 HR2.out.2]; exact hk
          have HCL : Hid (∀ m', Calls Try.prog fc (#[.int .i64 (f (pc)), .int .i64 (f (c))] ++ lb) (w.drewN m') fun e W' => e = .returned (.int .i64 (cf (f (pc)) (f (c)))) ∧ ∃ k, W' = (w.drewN m').drewN k) := fun m' => HCALL.out _ _ _ (below_dN HW.out) HR1.out.1 HR1.out.2 HR2.out.1 HR2.out.2
          clear hk
          go_upto_region 35 with fail
          rw [HCI.out]
          refine wp_region_seq (fun w' => ∃ k, w' = w.drewN k) (by kernel_rfl) (by kernel_rfl) ⟨q + 1, rfl⟩ ?_
          show Seq _ _ _ _ [_, _, _, _, _, _, _, _, _, _, _, _, _, _] _
          repeat (first
            | (refine seq_val ?_ (by rfl) ?_ ?_
               rotate_left 1
               · rintro w5 ⟨k5, rfl⟩; go_simp; first | done | with_reducible rfl
               (try simp only [Act.put, List.setIfInBounds_toArray, List.set_cons_zero, List.set_cons_succ]))
            | (refine seq_call ?_ ?_ ?_ (by rfl) ?_ ?_ ?_
               rotate_left 3
               · rintro w5 ⟨k5, rfl⟩; go_simp; (refine And.intro ?_ ?_ <;> rfl)
               · rintro w5 ⟨k5, rfl⟩
                 refine Calls.mono (HCL.out k5) ?_
                 rintro e W' ⟨rfl, m5, rfl⟩
                 refine And.intro ?_ ⟨k5 + m5, World.drewN_drewN _ _ _⟩
                 rfl
               (try simp only [Act.put, List.setIfInBounds_toArray, List.set_cons_zero, List.set_cons_succ])))
          refine seq_end ?_
          rintro w7 ⟨k7, rfl⟩
          go_wp2_with fail
          go_roundg (r - (c + 1))
          case measure => omega
          case rel => exact ⟨c + 1, r, _, by omega, by omega, hj, rfl, by go_num, rfl, rfl, fun y h1 h2 => by
            have l1 := HPRE.out.l.le (show a ≤ y by omega) (show y ≤ c by omega) (by omega)
            have l2 := HPRE.out.r.le hpc1 (show pc ≤ mid + m - 1 - y by rw [HPC.out]; omega) (by omega)
            have := hkk.out
            rw [HPC.out] at this l2
            omega, K2.out⟩
      · obtain rfl : s = r := by omega
        clear hlt hij
        have HC := Lib.hid (HCUT s hi hj K1.out K2.out)
        obtain ⟨e, he⟩ : ∃ e, e = mid + m - s := ⟨_, rfl⟩
        rw [← he] at HC
        have heI : Hid ((mid : Int) + (m : Int) - (s : Int) = (e : Int)) := by show _ = _; omega
        have hes : Hid (s + (e - m) = mid) := by show _ = _; omega
        have he1 : m ≤ e := by omega
        have he2 : e ≤ b := by omega
        have hsm : s ≤ m := by omega
        have hsa : a ≤ s := by omega
        have hsmid : s ≤ mid := by omega
        have hmide : mid ≤ e := by omega
        have hes2 : s = m → e = mid := by omega
        clear he K1 K2
        have HL := cut_left HPRE.out HC.out
        have HR := cut_right HPRE.out HC.out
        have HD := fun g1 g2 => @cut_done key f a s m e b HPRE.out HC.out g1 g2
        rw [hes.out] at HL HR HD
        have HL := Lib.hid HL
        have HR := Lib.hid HR
        have HD := Lib.hid HD
        have HRR := Lib.hid (((Rear.rot f hsm he1).mono hsa he2).range hbn HRAN.out)
        go_upto_region 39 with fail
        rw [heI.out]
        by_cases hrot : s < m ∧ m < e
        · obtain ⟨hr1, hr2⟩ := hrot
          go_wp2_with fail
          refine (rotate_any s m e _ _ (H.out.dN _) hr1 hr2 (by omega)).mono ?_
          rintro e' w2 ⟨rfl, hs2'⟩
          have HS2 := Lib.hid (((Srt.refl H.out).dN q).trans hs2')
          clear hs2' hr1 hr2 hes2
          generalize rot f s m e = h at *
          have HB2 := Lib.hid (HS2.out.below HW.out hbg)
          by_cases hq1 : a < s ∧ s < mid
          · obtain ⟨hq11, hq12⟩ := hq1
            go_wp2_with fail
            refine (HIH.out a s mid h _ (by omega) hq11 hq12 (by omega) HS2.out.2.2 HB2.out HL.out HRR.out).mono ?_
            rintro e' w3 ⟨rfl, g1, gs, gr, gd⟩
            have HS3 := Lib.hid (HS2.out.trans gs)
            have GR := Lib.hid gr
            have GD := Lib.hid gd
            clear gs gr gd hq11 hq12
            have HB3 := Lib.hid (HS3.out.below HW.out hbg)
            have HR3 := Lib.hid (HR.out.congr hmide he2 (fun k p _ => GR.out.out (.inr p)))
            by_cases hq2 : mid < e ∧ e < b
            · obtain ⟨hq21, hq22⟩ := hq2
              go_wp2_with fail
              all_goals
                refine (HIH.out mid e b _ _ (by omega) hq21 hq22 hbn HS3.out.2.2 HB3.out HR3.out (GR.out.range (by omega) HRR.out)).mono ?_
                rintro e' w4 ⟨rfl, g2, gs2, gr2, gd2⟩
                have HS4 := Lib.hid (HS3.out.trans gs2)
                have HF := Lib.hid (HD.out _ g2 GR.out GD.out gr2 gd2)
                clear gs2 gr2 gd2
                go_wp2_with fail
                all_goals (go_end0; exact ⟨rfl, g2, HS4.out, HF.out.2, HF.out.1⟩)
            · have hq2' : ¬ mid < e ∨ ¬ e < b := by omega
              have HF := Lib.hid (HD.out _ _ GR.out GD.out (Rear.refl _ mid b) (HR3.out.left hq2 hmide he2))
              clear hq2
              rcases hq2' with hq2' | hq2'
              all_goals
                go_wp2_with fail
                all_goals (go_end0; exact ⟨rfl, _, HS3.out, HF.out.2, HF.out.1⟩)
          · have hq1' : ¬ a < s ∨ ¬ s < mid := by omega
            have GR := Lib.hid (Rear.refl h a mid)
            have GD := Lib.hid (HL.out.left hq1 hsa hsmid)
            have HS3 := Lib.hid HS2.out
            clear hq1
            rcases hq1' with hq1' | hq1'
            all_goals
              have HB3 := Lib.hid (HS3.out.below HW.out hbg)
              have HR3 := Lib.hid (HR.out.congr hmide he2 (fun k p _ => GR.out.out (.inr p)))
              by_cases hq2 : mid < e ∧ e < b
              · obtain ⟨hq21, hq22⟩ := hq2
                go_wp2_with fail
                all_goals
                  refine (HIH.out mid e b _ _ (by omega) hq21 hq22 hbn HS3.out.2.2 HB3.out HR3.out (GR.out.range (by omega) HRR.out)).mono ?_
                  rintro e' w4 ⟨rfl, g2, gs2, gr2, gd2⟩
                  have HS4 := Lib.hid (HS3.out.trans gs2)
                  have HF := Lib.hid (HD.out _ g2 GR.out GD.out gr2 gd2)
                  clear gs2 gr2 gd2
                  go_wp2_with fail
                  all_goals (go_end0; exact ⟨rfl, g2, HS4.out, HF.out.2, HF.out.1⟩)
              · have hq2' : ¬ mid < e ∨ ¬ e < b := by omega
                have HF := Lib.hid (HD.out _ _ GR.out GD.out (Rear.refl _ mid b) (HR3.out.left hq2 hmide he2))
                clear hq2
                rcases hq2' with hq2' | hq2'
                all_goals
                  go_wp2_with fail
                  all_goals (go_end0; exact ⟨rfl, _, HS3.out, HF.out.2, HF.out.1⟩)
        · have hrot' : ¬ s < m ∨ ¬ m < e := by omega
          have HE : Hid (rot f s m e = f) := rot_none f hsm he1 (by omega)
          have HS2 := Lib.hid (((Srt.refl H.out).dN q).of_eq HE.out.symm)
          clear hrot hes2 HE
          generalize rot f s m e = h at *
          rcases hrot' with hrot' | hrot'
          all_goals
            have HB2 := Lib.hid (HS2.out.below HW.out hbg)
            by_cases hq1 : a < s ∧ s < mid
            · obtain ⟨hq11, hq12⟩ := hq1
              go_wp2_with fail
              refine (HIH.out a s mid h _ (by omega) hq11 hq12 (by omega) HS2.out.2.2 HB2.out HL.out HRR.out).mono ?_
              rintro e' w3 ⟨rfl, g1, gs, gr, gd⟩
              have HS3 := Lib.hid (HS2.out.trans gs)
              have GR := Lib.hid gr
              have GD := Lib.hid gd
              clear gs gr gd hq11 hq12
              have HB3 := Lib.hid (HS3.out.below HW.out hbg)
              have HR3 := Lib.hid (HR.out.congr hmide he2 (fun k p _ => GR.out.out (.inr p)))
              by_cases hq2 : mid < e ∧ e < b
              · obtain ⟨hq21, hq22⟩ := hq2
                go_wp2_with fail
                all_goals
                  refine (HIH.out mid e b _ _ (by omega) hq21 hq22 hbn HS3.out.2.2 HB3.out HR3.out (GR.out.range (by omega) HRR.out)).mono ?_
                  rintro e' w4 ⟨rfl, g2, gs2, gr2, gd2⟩
                  have HS4 := Lib.hid (HS3.out.trans gs2)
                  have HF := Lib.hid (HD.out _ g2 GR.out GD.out gr2 gd2)
                  clear gs2 gr2 gd2
                  go_wp2_with fail
                  all_goals (go_end0; exact ⟨rfl, g2, HS4.out, HF.out.2, HF.out.1⟩)
              · have hq2' : ¬ mid < e ∨ ¬ e < b := by omega
                have HF := Lib.hid (HD.out _ _ GR.out GD.out (Rear.refl _ mid b) (HR3.out.left hq2 hmide he2))
                clear hq2
                rcases hq2' with hq2' | hq2'
                all_goals
                  go_wp2_with fail
                  all_goals (go_end0; exact ⟨rfl, _, HS3.out, HF.out.2, HF.out.1⟩)
            · have hq1' : ¬ a < s ∨ ¬ s < mid := by omega
              have GR := Lib.hid (Rear.refl h a mid)
              have GD := Lib.hid (HL.out.left hq1 hsa hsmid)
              have HS3 := Lib.hid HS2.out
              clear hq1
              rcases hq1' with hq1' | hq1'
              all_goals
                have HB3 := Lib.hid (HS3.out.below HW.out hbg)
                have HR3 := Lib.hid (HR.out.congr hmide he2 (fun k p _ => GR.out.out (.inr p)))
                by_cases hq2 : mid < e ∧ e < b
                · obtain ⟨hq21, hq22⟩ := hq2
                  go_wp2_with fail
                  all_goals
                    refine (HIH.out mid e b _ _ (by omega) hq21 hq22 hbn HS3.out.2.2 HB3.out HR3.out (GR.out.range (by omega) HRR.out)).mono ?_
                    rintro e' w4 ⟨rfl, g2, gs2, gr2, gd2⟩
                    have HS4 := Lib.hid (HS3.out.trans gs2)
                    have HF := Lib.hid (HD.out _ g2 GR.out GD.out gr2 gd2)
                    clear gs2 gr2 gd2
                    go_wp2_with fail
                    all_goals (go_end0; exact ⟨rfl, g2, HS4.out, HF.out.2, HF.out.1⟩)
                · have hq2' : ¬ mid < e ∨ ¬ e < b := by omega
                  have HF := Lib.hid (HD.out _ _ GR.out GD.out (Rear.refl _ mid b) (HR3.out.left hq2 hmide he2))
                  clear hq2
                  rcases hq2' with hq2' | hq2'
                  all_goals
                    go_wp2_with fail
                    all_goals (go_end0; exact ⟨rfl, _, HS3.out, HF.out.2, HF.out.1⟩)
end Go.Proofs.Ytaacfjeddoekfaa
