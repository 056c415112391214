/- Chapter 15: the walk of DyeBetween. -/
import Derived.Test.YtmjhhaejiabkdaaLawMixes
import Derived.Test.YtmjhhaejiabkdaaAlive
import Derived.Test.YtmjhhaejiabkdaaBetweenPlain
namespace Go.Proofs.Ytmjhhaejiabkdaa
open Go.RowKit Go.Proofs.Ytmjhhaejiabkdaa.Fl
set_option linter.unusedVariables false
attribute [local go_sem] run_put_float

/-- what Mix answers, and why -/
theorem mix_says (xs : List Dr) : ∃ (d : Dy) (c : Int), 0 ≤ c ∧ c ≤ 5 ∧ (c = 0 → 1 ≤ xs.length ∧ xs.length ≤ 64 ∧ (∀ i (h : i < xs.length), xs[i].ok = true) ∧ MixIs xs d) ∧ ∀ (S : Nat → Prop) (v : Value) (w : World), Drops w S v xs → (∀ b, S b → b < w.heap.size) →
    (Calls Try.prog 11 #[v] w fun e w' => e = .returned (.tuple #[d.val, .int .i64 c]) ∧ Below w.heap.size w w') := by
  by_cases hm : xs.length = 0 ∨ 64 < xs.length
  · exact ⟨⟨0, 0, 0⟩, 5, by decide, by decide, fun h => absurd h (by decide), fun S v w hv hS => Mix_many w hv hm⟩
  · by_cases hb : ∃ i, ∃ h : i < xs.length, xs[i].ok = false
    · obtain ⟨i, h, hb⟩ := hb
      exact ⟨⟨0, 0, 0⟩, 3, by decide, by decide, fun h => absurd h (by decide), fun S v w hv hS => Mix_bad w hv hS (by omega) (by omega) h hb⟩
    · have hok : ∀ i (h : i < xs.length), xs[i].ok = true := fun i h => by
        cases ho : xs[i].ok with
        | true => rfl
        | false => exact absurd ⟨i, h, ho⟩ hb
      obtain ⟨d, hd⟩ := mix_is (by omega) hok (by omega)
      exact ⟨d, 0, by decide, by decide, fun _ => ⟨by omega, by omega, hok, hd⟩, fun S v w hv hS => Mix_ok w hv hS (by omega) (by omega) hok hd⟩

/-- what stands in the loop over the drops: the mix, the least, the greatest -/
structure BS (w0 w' : World) (H : Nat) (d lo hi : Dy) : Prop where
  below : Below w0.heap.size w0 w'
  mix : Arr w' H 33 d.cells
  lo : Arr w' (H + 1) 33 lo.cells
  hi : Arr w' (H + 1 + 1) 33 hi.cells
  le : w0.heap.size ≤ H
theorem BS.al {w0 w' : World} {H : Nat} {d lo hi : Dy} (h : BS w0 w' H d lo hi) (o : Obj) : BS w0 (w'.alloc o) H d lo hi := ⟨h.below.alloc h.below.size o, h.mix.alloc o, h.lo.alloc o, h.hi.alloc o, h.le⟩
theorem BS.setLo {w0 w' : World} {H : Nat} {d lo hi : Dy} (h : BS w0 w' H d lo hi) (a b c : Nat) :
    BS w0 (((w'.setCell ⟨H + 1, 0, none⟩ (.float .f64 a)).setCell ⟨H + 1, 1, none⟩ (.float .f64 b)).setCell ⟨H + 1, 2, none⟩ (.float .f64 c)) H d ⟨a, b, c⟩ hi := by
  have hle := h.le
  refine ⟨((h.below.setCell (by show _ ≤ H + 1; omega) _).setCell (by show _ ≤ H + 1; omega) _).setCell (by show _ ≤ H + 1; omega) _, ?_, ?_, ?_, h.le⟩
  · exact ((h.mix.far (by show H ≠ H + 1; omega) _).far (by show H ≠ H + 1; omega) _).far (by show H ≠ H + 1; omega) _
  · exact ((h.lo.set 0 _).set 1 _).set 2 _
  · exact ((h.hi.far (by show H + 1 + 1 ≠ H + 1; omega) _).far (by show H + 1 + 1 ≠ H + 1; omega) _).far (by show H + 1 + 1 ≠ H + 1; omega) _
theorem BS.setHi {w0 w' : World} {H : Nat} {d lo hi : Dy} (h : BS w0 w' H d lo hi) (a b c : Nat) :
    BS w0 (((w'.setCell ⟨H + 1 + 1, 0, none⟩ (.float .f64 a)).setCell ⟨H + 1 + 1, 1, none⟩ (.float .f64 b)).setCell ⟨H + 1 + 1, 2, none⟩ (.float .f64 c)) H d lo ⟨a, b, c⟩ := by
  have hle := h.le
  refine ⟨((h.below.setCell (by show _ ≤ H + 1 + 1; omega) _).setCell (by show _ ≤ H + 1 + 1; omega) _).setCell (by show _ ≤ H + 1 + 1; omega) _, ?_, ?_, ?_, h.le⟩
  · exact ((h.mix.far (by show H ≠ H + 1 + 1; omega) _).far (by show H ≠ H + 1 + 1; omega) _).far (by show H ≠ H + 1 + 1; omega) _
  · exact ((h.lo.far (by show H + 1 ≠ H + 1 + 1; omega) _).far (by show H + 1 ≠ H + 1 + 1; omega) _).far (by show H + 1 ≠ H + 1 + 1; omega) _
  · exact ((h.hi.set 0 _).set 1 _).set 2 _

set_option maxRecDepth 100000 in
set_option maxHeartbeats 4000000 in
theorem between_walk {l p : Value} {xs : List Dr} {ys : List Dy} {w : World} (hl : Drops w (fun b => b < w.heap.size) l xs) (hp : Dyes w (fun b => b < w.heap.size) p ys) (k : Int) (hk : -9223372036854775808 ≤ k ∧ k ≤ 9223372036854775807) :
    Calls Try.prog 4 #[l, p, .int .i64 k] w fun e w' => e = .returned (.bool true) ∧ Below w.heap.size w w' := by
  obtain ⟨d1, c1, a1, a2, hc0, M⟩ := mix_says xs
  have HM := Lib.hid M
  have HL := Lib.hid hl
  have HP := Lib.hid hp
  have HC0 := Lib.hid hc0
  clear M hc0
  obtain ⟨A, cl, rfl, h1, h2, hrl⟩ := hl
  obtain ⟨B, cp, rfl, h3, h4, hrp⟩ := hp
  clear hrl hrp
  unfold maxLen at h2 h4
  by_cases hcz : c1 = 0
  · obtain ⟨n1, n2, hok, hmx⟩ := HC0.out hcz
    subst hcz
    have HOK := Lib.hid hok
    have HMX := Lib.hid hmx
    clear hok hmx
    go_enter Try.func4, Try.ntmps4
    go_wp2_with fail
    refine (alive_true _).mono ?_
    rintro e w0 ⟨rfl, hb0⟩
    have HB0 := Lib.hid hb0
    clear hb0
    go_wp2_with fail
    refine (HM.out _ _ _ (HL.out.same (Same.of_below HB0.out)) (fun b h => Nat.lt_of_lt_of_le h HB0.out.size)).mono ?_
    rintro e w1 ⟨rfl, hb1⟩
    have HB1 := Lib.hid (HB0.out.trans (hb1.mono HB0.out.size))
    clear hb1
    unfold Dy.val
    go_wp2_with fail
    have HS0 : Hid (BS w (((w1.alloc (.cells #[.float .f64 d1.r, .float .f64 d1.g, .float .f64 d1.b] 33)).alloc (.cells #[.float .f64 4607182418800017408, .float .f64 4607182418800017408, .float .f64 4607182418800017408] 33)).alloc (.cells #[.float .f64 0, .float .f64 0, .float .f64 0] 33)) w1.heap.size d1 ⟨4607182418800017408, 4607182418800017408, 4607182418800017408⟩ ⟨0, 0, 0⟩) := by
      have g1 := Arr.new w1 #[.float .f64 d1.r, .float .f64 d1.g, .float .f64 d1.b] 33
      have g2 := Arr.new (w1.alloc (.cells #[.float .f64 d1.r, .float .f64 d1.g, .float .f64 d1.b] 33)) #[.float .f64 4607182418800017408, .float .f64 4607182418800017408, .float .f64 4607182418800017408] 33
      have g3 := Arr.new ((w1.alloc (.cells #[.float .f64 d1.r, .float .f64 d1.g, .float .f64 d1.b] 33)).alloc (.cells #[.float .f64 4607182418800017408, .float .f64 4607182418800017408, .float .f64 4607182418800017408] 33)) #[.float .f64 0, .float .f64 0, .float .f64 0] 33
      simp only [World.size_alloc] at g2 g3
      exact ⟨((HB1.out.alloc HB1.out.size _).alloc (by have := HB1.out.size; simp; omega) _).alloc (by have := HB1.out.size; simp; omega) _, (g1.alloc _).alloc _, g2.alloc _, g3, HB1.out.size⟩
    generalize hH : w1.heap.size = H at *
    obtain ⟨T, hT⟩ : ∃ T, T = 1074 := ⟨_, rfl⟩
    have hun : Hid (∀ i (h : i < xs.length), unitB xs[i].d.r = true ∧ unitB xs[i].d.g = true ∧ unitB xs[i].d.b = true) := by
      intro i h
      obtain ⟨_, f, _⟩ | ⟨ho, _⟩ := (xs[i]).ok_cases
      · unfold Dy.fair at f; simp only [Bool.and_eq_true] at f; exact ⟨f.1.1, f.1.2, f.2⟩
      · rw [HOK.out i h] at ho; cases ho
    go_loopg [27] xs.length (fun g ctr w2 => ∃ (j : Nat) (lo hi : Dy), j ≤ xs.length ∧ g = xs.length - j ∧ ctr = .int .i64 j ∧ BS w w2 H d1 lo hi ∧ Held T Dy.r xs j lo.r hi.r ∧ Held T Dy.g xs j lo.g hi.g ∧ Held T Dy.b xs j lo.b hi.b)
    case atStart => exact ⟨0, _, _, by omega, rfl, rfl, HS0.out, Held.start hT _ _, Held.start hT _ _, Held.start hT _ _⟩
    case round =>
      clear HS0
      obtain ⟨j, lo, hi, hj, rfl, rfl, hbs, q1, q2, q3⟩ := hrel
      have HBS := Lib.hid hbs
      have Q1 := Lib.hid q1
      have Q2 := Lib.hid q2
      have Q3 := Lib.hid q3
      clear hbs q1 q2 q3
      by_cases hjl : j < xs.length
      case neg =>
        obtain rfl : j = xs.length := by omega
        obtain ⟨a6, b6, s6, t6, u6, v6⟩ := mix_between hT n2 HOK.out n1 (p := Dy.r) (fun i h => (hun.out i h).1) Q1.out HMX.out.qr
        have ss6 := fun w => run_fsub s6 w
        have tt6 := fun w => run_fadd t6 w
        have uu6 : (FloatKind.f64.format.order d1.r a6 == some .gt || FloatKind.f64.format.order d1.r a6 == some .eq) = true := u6
        have vv6 : (FloatKind.f64.format.order d1.r b6 == some .lt || FloatKind.f64.format.order d1.r b6 == some .eq) = true := v6
        clear s6 t6 u6 v6
        obtain ⟨a7, b7, s7, t7, u7, v7⟩ := mix_between hT n2 HOK.out n1 (p := Dy.g) (fun i h => (hun.out i h).2.1) Q2.out HMX.out.qg
        have ss7 := fun w => run_fsub s7 w
        have tt7 := fun w => run_fadd t7 w
        have uu7 : (FloatKind.f64.format.order d1.g a7 == some .gt || FloatKind.f64.format.order d1.g a7 == some .eq) = true := u7
        have vv7 : (FloatKind.f64.format.order d1.g b7 == some .lt || FloatKind.f64.format.order d1.g b7 == some .eq) = true := v7
        clear s7 t7 u7 v7
        obtain ⟨a8, b8, s8, t8, u8, v8⟩ := mix_between hT n2 HOK.out n1 (p := Dy.b) (fun i h => (hun.out i h).2.2) Q3.out HMX.out.qb
        have ss8 := fun w => run_fsub s8 w
        have tt8 := fun w => run_fadd t8 w
        have uu8 : (FloatKind.f64.format.order d1.b a8 == some .gt || FloatKind.f64.format.order d1.b a8 == some .eq) = true := u8
        have vv8 : (FloatKind.f64.format.order d1.b b8 == some .lt || FloatKind.f64.format.order d1.b b8 == some .eq) = true := v8
        clear s8 t8 u8 v8
        have y0 := HBS.out.mix.cell (k := 0) rfl
        have y1 := HBS.out.mix.cell (k := 1) rfl
        have y2 := HBS.out.mix.cell (k := 2) rfl
        have l0 := HBS.out.lo.cell (k := 0) rfl
        have l1 := HBS.out.lo.cell (k := 1) rfl
        have l2 := HBS.out.lo.cell (k := 2) rfl
        have g0 := HBS.out.hi.cell (k := 0) rfl
        have g1 := HBS.out.hi.cell (k := 1) rfl
        have g2 := HBS.out.hi.cell (k := 2) rfl
        have HBT := Lib.hid HBS.out.below
        go_upto_region 14 with fail
        clear y0 y1 y2 l0 l1 l2 g0 g1 g2 ss6 ss7 ss8 tt6 tt7 tt8 uu6 uu7 uu8 vv6 vv7 vv8
        by_cases hk0 : k < 0
        · go_wp2_with fail
          go_ret
          exact ⟨rfl, HBT.out⟩
        by_cases hkl : (ys.length : Int) ≤ k
        · go_wp2_with fail
          go_ret
          exact ⟨rfl, HBT.out⟩
        obtain ⟨m, rfl⟩ := Int.eq_ofNat_of_zero_le (show 0 ≤ k by omega)
        have hml : m < ys.length := by omega
        obtain ⟨b2, c2, ⟨a3, a4, hz2⟩, N⟩ := near_both ys ys[m]
        have HN := Lib.hid N
        have HZ2 := Lib.hid hz2
        have HPW := Lib.hid ((HP.out.same (Same.of_below HBT.out)).mono (fun i h => Nat.lt_of_lt_of_le h HBT.out.size))
        clear N hz2 hk0 hkl
        obtain ⟨b, o, rfl, hbS, x0, x1, x2⟩ := dy_cells (hrow_of HPW.out) hml
        have hms : 0 ≤ (m : Int) := by omega
        go_wp2_with fail
        refine (HN.out _ _ HPW.out).1.mono ?_
        rintro e w5 ⟨rfl, hb5⟩
        have HB5 := Lib.hid (HBT.out.trans (hb5.mono HBT.out.size))
        clear hb5 x0 x1 x2
        by_cases hc2 : c2 = 0
        · subst hc2
          obtain ⟨hdf, hxf, hbest⟩ := HZ2.out rfl
          have f1 := farOf_is hdf hxf hbest.lt
          have f2 := farOf_is hdf hxf hml
          have hbm : b2 ≤ m := by
            rcases Nat.lt_or_ge m b2 with h | h
            · have := hbest.first m h
              have := f2.2.2.2 rfl
              have := f1.2.2.1
              omega
            · exact h
          have hv0 : V (farOf ys ys[m] b2) = 0 := by
            have := hbest.le m hml
            have := f2.2.2.2 rfl
            have := f1.2.2.1
            omega
          have hb2l := hbest.lt
          have hcmp : (FloatKind.f64.format.order (farOf ys ys[m] b2) 0 == some .eq) = true := by
            have ho : FloatKind.f64.format.order (farOf ys ys[m] b2) 0 = some (compare (V (farOf ys ys[m] b2)) (V 0)) := order_spec f1.2.1 fw_zero
            rw [ho, hv0, v_zero]
            rfl
          have HFR : Hid (FarIs (ys[b2]'hb2l) ys[m] (farOf ys ys[m] b2)) := f1.1
          clear f1 f2 hbest hdf hxf hv0
          have HS : Hid (∀ w', Below w5.heap.size w5 w' → (Below w5.heap.size w5 w' ∧ w'.cell? ⟨b, o + m * 3, none⟩ = some (.float .f64 ys[m].r) ∧ w'.cell? ⟨b, o + m * 3 + 1, none⟩ = some (.float .f64 ys[m].g) ∧ w'.cell? ⟨b, o + m * 3 + 2, none⟩ = some (.float .f64 ys[m].b) ∧
              w'.cell? ⟨b, o + b2 * 3, none⟩ = some (.float .f64 ys[b2].r) ∧ w'.cell? ⟨b, o + b2 * 3 + 1, none⟩ = some (.float .f64 ys[b2].g) ∧ w'.cell? ⟨b, o + b2 * 3 + 2, none⟩ = some (.float .f64 ys[b2].b))) := fun w' h => by
            have hb := HB5.out.trans (h.mono HB5.out.size)
            obtain ⟨b', o', e', _, y0, y1, y2⟩ := dy_cells (hrow_of (HP.out.same (Same.of_below hb))) hml
            cases e'
            obtain ⟨b', o', e', _, z0, z1, z2⟩ := dy_cells (hrow_of (HP.out.same (Same.of_below hb))) hb2l
            cases e'
            exact ⟨h, y0, y1, y2, z0, z1, z2⟩
          generalize hfv : farOf ys ys[m] b2 = fv at *
          clear hfv
          have hym : ys[m] = ys[m] := rfl
          clear hym
          generalize ys[m] = u at *
          generalize ys[b2] = v at *
          have hbms : (0 : Int) ≤ (b2 : Int) := by omega
          have hbml : (b2 : Int) ≤ (m : Int) := by omega
          have hst : Hid (Below w5.heap.size w5 w5) := Below.refl _ _
          have hbl1 : (b2 : Int) < (ys.length : Int) := by omega
          have hml1 : (m : Int) < (ys.length : Int) := by omega
          go_wp2_with fail
          refine wp_region_seq (fun w' => Below w5.heap.size w5 w' ∧ w'.cell? ⟨b, o + m * 3, none⟩ = some (.float .f64 u.r) ∧ w'.cell? ⟨b, o + m * 3 + 1, none⟩ = some (.float .f64 u.g) ∧ w'.cell? ⟨b, o + m * 3 + 2, none⟩ = some (.float .f64 u.b) ∧
              w'.cell? ⟨b, o + b2 * 3, none⟩ = some (.float .f64 v.r) ∧ w'.cell? ⟨b, o + b2 * 3 + 1, none⟩ = some (.float .f64 v.g) ∧ w'.cell? ⟨b, o + b2 * 3 + 2, none⟩ = some (.float .f64 v.b))
            (by kernel_rfl) (by kernel_rfl) (HS.out _ (nb_drew hst.out)) ?_
          show Seq _ _ _ _ [_, _, _, _, _, _, _, _, _, _, _, _, _, _, _, _, _, _, _, _] _
          repeat (first
            | (refine seq_skip (by rfl) ?_; (try simp only [Act.put, List.setIfInBounds_toArray, List.set_cons_zero, List.set_cons_succ]))
            | (refine seq_val ?_ (by rfl) ?_ ?_
               rotate_left 1
               · intro w6 hS6; go_simp; first | done | with_reducible rfl
               (try simp only [Act.put, List.setIfInBounds_toArray, List.set_cons_zero, List.set_cons_succ]))
            | (refine seq_call ?_ ?_ ?_ (by rfl) ?_ ?_ ?_
               rotate_left 3
               · intro w6 hS6; go_simp; (refine And.intro ?_ ?_ <;> rfl)
               · intro w6 hS6
                 (with_reducible refine (Far_at HFR.out _).mono ?_); rintro e w7 ⟨rfl, hb7⟩; refine And.intro ?_ (HS.out _ (nb_next hb7 hS6.1)); rfl
               (try simp only [Act.put, List.setIfInBounds_toArray, List.set_cons_zero, List.set_cons_succ])))
          refine seq_end ?_
          intro w7 hS7
          obtain ⟨hf7, _⟩ := hS7
          have HB7 := Lib.hid (HB5.out.trans (hf7.mono HB5.out.size))
          clear hf7
          go_wp2_with fail
          go_ret
          exact ⟨rfl, HB7.out⟩
        · have hcn : (c2 != 0) = true := by simpa using hc2
          go_wp2_with fail
          go_ret
          exact ⟨rfl, HB5.out⟩
      obtain ⟨A', c', e', _, _, hr⟩ := HL.out.same (Same.of_below HBS.out.below)
      cases e'
      obtain ⟨b, o, rfl, _, hc⟩ := els_at Dr.cells_len hr (by decide) hjl
      have x0 : wr.cell? ⟨b, o + j * 4, none⟩ = some (.float .f64 xs[j].d.r) := hc 0 _ rfl
      have x1 : wr.cell? ⟨b, o + j * 4 + 1, none⟩ = some (.float .f64 xs[j].d.g) := hc 1 _ rfl
      have x2 : wr.cell? ⟨b, o + j * 4 + 2, none⟩ = some (.float .f64 xs[j].d.b) := hc 2 _ rfl
      have x3 : wr.cell? ⟨b, o + j * 4 + 3, none⟩ = some (.float .f64 xs[j].s) := hc 3 _ rfl
      clear hc hr
      obtain ⟨i1, i2, i3⟩ := hun.out j hjl
      have I1 : Hid (In01 T xs[j].d.r) := unit_V hT i1
      have I2 : Hid (In01 T xs[j].d.g) := unit_V hT i2
      have I3 : Hid (In01 T xs[j].d.b) := unit_V hT i3
      clear i1 i2 i3
      have N1 := Lib.hid (Q1.out.next hjl I1.out)
      have N2 := Lib.hid (Q2.out.next hjl I2.out)
      have N3 := Lib.hid (Q3.out.next hjl I3.out)
      have m1 := fun ts t w => run_minF (P := Try.prog) Q1.out.inLo.1 I1.out.1 ts t w
      have m2 := fun ts t w => run_minF (P := Try.prog) Q2.out.inLo.1 I2.out.1 ts t w
      have m3 := fun ts t w => run_minF (P := Try.prog) Q3.out.inLo.1 I3.out.1 ts t w
      have hHr : H + 1 + 1 < wr.heap.size := HBS.out.hi.lt
      have hHr1 : H + 1 < wr.heap.size := HBS.out.lo.lt
      have hHr0 : H < wr.heap.size := HBS.out.mix.lt
      have l0 := HBS.out.lo.cell (k := 0) rfl
      have l1 := HBS.out.lo.cell (k := 1) rfl
      have l2 := HBS.out.lo.cell (k := 2) rfl
      have z0 := HBS.out.lo.free 0
      have z1 := HBS.out.lo.free 1
      have z2 := HBS.out.lo.free 2
      have HB9 := Lib.hid ((HBS.out.setLo (minF lo.r xs[j].d.r) (minF lo.g xs[j].d.g) (minF lo.b xs[j].d.b)).al (.cells #[.float .f64 xs[j].d.r, .float .f64 xs[j].d.g, .float .f64 xs[j].d.b, .float .f64 xs[j].s] 37))
      have hx9 := (Arr.new (((wr.setCell ⟨H + 1, 0, none⟩ (.float .f64 (minF lo.r xs[j].d.r))).setCell ⟨H + 1, 1, none⟩ (.float .f64 (minF lo.g xs[j].d.g))).setCell ⟨H + 1, 2, none⟩ (.float .f64 (minF lo.b xs[j].d.b))) #[.float .f64 xs[j].d.r, .float .f64 xs[j].d.g, .float .f64 xs[j].d.b, .float .f64 xs[j].s] 37)
      rw [World.size_setCell, World.size_setCell, World.size_setCell] at hx9
      have HX9 := Lib.hid hx9
      clear hx9
      generalize xs[j] = x at *
      go_upto_region 10 with fail
      clear x0 x1 x2 x3 l0 l1 l2 z0 z1 z2 m1 m2 m3 hHr hHr1 hHr0
      generalize (((wr.setCell ⟨H + 1, 0, none⟩ (.float .f64 (minF lo.r x.d.r))).setCell ⟨H + 1, 1, none⟩ (.float .f64 (minF lo.g x.d.g))).setCell ⟨H + 1, 2, none⟩ (.float .f64 (minF lo.b x.d.b))).alloc (.cells #[.float .f64 x.d.r, .float .f64 x.d.g, .float .f64 x.d.b, .float .f64 x.s] 37) = w9 at *
      have m4 := fun ts t w => run_maxF (P := Try.prog) Q1.out.inHi.1 I1.out.1 ts t w
      have m5 := fun ts t w => run_maxF (P := Try.prog) Q2.out.inHi.1 I2.out.1 ts t w
      have m6 := fun ts t w => run_maxF (P := Try.prog) Q3.out.inHi.1 I3.out.1 ts t w
      have x0 := HX9.out.cell (k := 0) rfl
      have x1 := HX9.out.cell (k := 1) rfl
      have x2 := HX9.out.cell (k := 2) rfl
      have g0 := HB9.out.hi.cell (k := 0) rfl
      have g1 := HB9.out.hi.cell (k := 1) rfl
      have g2 := HB9.out.hi.cell (k := 2) rfl
      have z3 := HB9.out.hi.free 0
      have z4 := HB9.out.hi.free 1
      have z5 := HB9.out.hi.free 2
      have HBL := Lib.hid (HB9.out.setHi (maxF hi.r x.d.r) (maxF hi.g x.d.g) (maxF hi.b x.d.b))
      go_wp2_with fail
      go_roundg (xs.length - (j + 1))
      case measure => omega
      case rel => exact ⟨j + 1, _, _, by omega, rfl, by go_num, HBL.out, N1.out, N2.out, N3.out⟩
  · have hcn : (c1 == 0) = false := by simpa using hcz
    clear hcz
    go_enter Try.func4, Try.ntmps4
    go_wp2_with fail
    refine (alive_true _).mono ?_
    rintro e w0 ⟨rfl, hb0⟩
    have HB0 := Lib.hid hb0
    clear hb0
    go_wp2_with fail
    refine (HM.out _ _ _ (HL.out.same (Same.of_below HB0.out)) (fun b h => Nat.lt_of_lt_of_le h HB0.out.size)).mono ?_
    rintro e w1 ⟨rfl, hb1⟩
    have HB1 := Lib.hid (HB0.out.trans (hb1.mono HB0.out.size))
    clear hb1
    unfold Dy.val
    have HBT := Lib.hid (HB1.out.alloc HB1.out.size (.cells #[.float .f64 d1.r, .float .f64 d1.g, .float .f64 d1.b] 33))
    go_upto_region 14 with fail
    by_cases hk0 : k < 0
    · go_wp2_with fail
      go_ret
      exact ⟨rfl, HBT.out⟩
    by_cases hkl : (ys.length : Int) ≤ k
    · go_wp2_with fail
      go_ret
      exact ⟨rfl, HBT.out⟩
    obtain ⟨m, rfl⟩ := Int.eq_ofNat_of_zero_le (show 0 ≤ k by omega)
    have hml : m < ys.length := by omega
    obtain ⟨b2, c2, ⟨a3, a4, hz2⟩, N⟩ := near_both ys ys[m]
    have HN := Lib.hid N
    have HZ2 := Lib.hid hz2
    have HPW := Lib.hid ((HP.out.same (Same.of_below HBT.out)).mono (fun i h => Nat.lt_of_lt_of_le h HBT.out.size))
    clear N hz2 hk0 hkl
    obtain ⟨b, o, rfl, hbS, x0, x1, x2⟩ := dy_cells (hrow_of HPW.out) hml
    have hms : 0 ≤ (m : Int) := by omega
    go_wp2_with fail
    refine (HN.out _ _ HPW.out).1.mono ?_
    rintro e w5 ⟨rfl, hb5⟩
    have HB5 := Lib.hid (HBT.out.trans (hb5.mono HBT.out.size))
    clear hb5 x0 x1 x2
    by_cases hc2 : c2 = 0
    · subst hc2
      obtain ⟨hdf, hxf, hbest⟩ := HZ2.out rfl
      have f1 := farOf_is hdf hxf hbest.lt
      have f2 := farOf_is hdf hxf hml
      have hbm : b2 ≤ m := by
        rcases Nat.lt_or_ge m b2 with h | h
        · have := hbest.first m h
          have := f2.2.2.2 rfl
          have := f1.2.2.1
          omega
        · exact h
      have hv0 : V (farOf ys ys[m] b2) = 0 := by
        have := hbest.le m hml
        have := f2.2.2.2 rfl
        have := f1.2.2.1
        omega
      have hb2l := hbest.lt
      have hcmp : (FloatKind.f64.format.order (farOf ys ys[m] b2) 0 == some .eq) = true := by
        have ho : FloatKind.f64.format.order (farOf ys ys[m] b2) 0 = some (compare (V (farOf ys ys[m] b2)) (V 0)) := order_spec f1.2.1 fw_zero
        rw [ho, hv0, v_zero]
        rfl
      have HFR : Hid (FarIs (ys[b2]'hb2l) ys[m] (farOf ys ys[m] b2)) := f1.1
      clear f1 f2 hbest hdf hxf hv0
      have HS : Hid (∀ w', Below w5.heap.size w5 w' → (Below w5.heap.size w5 w' ∧ w'.cell? ⟨b, o + m * 3, none⟩ = some (.float .f64 ys[m].r) ∧ w'.cell? ⟨b, o + m * 3 + 1, none⟩ = some (.float .f64 ys[m].g) ∧ w'.cell? ⟨b, o + m * 3 + 2, none⟩ = some (.float .f64 ys[m].b) ∧
          w'.cell? ⟨b, o + b2 * 3, none⟩ = some (.float .f64 ys[b2].r) ∧ w'.cell? ⟨b, o + b2 * 3 + 1, none⟩ = some (.float .f64 ys[b2].g) ∧ w'.cell? ⟨b, o + b2 * 3 + 2, none⟩ = some (.float .f64 ys[b2].b))) := fun w' h => by
        have hb := HB5.out.trans (h.mono HB5.out.size)
        obtain ⟨b', o', e', _, y0, y1, y2⟩ := dy_cells (hrow_of (HP.out.same (Same.of_below hb))) hml
        cases e'
        obtain ⟨b', o', e', _, z0, z1, z2⟩ := dy_cells (hrow_of (HP.out.same (Same.of_below hb))) hb2l
        cases e'
        exact ⟨h, y0, y1, y2, z0, z1, z2⟩
      generalize hfv : farOf ys ys[m] b2 = fv at *
      clear hfv
      have hym : ys[m] = ys[m] := rfl
      clear hym
      generalize ys[m] = u at *
      generalize ys[b2] = v at *
      have hbms : (0 : Int) ≤ (b2 : Int) := by omega
      have hbml : (b2 : Int) ≤ (m : Int) := by omega
      have hst : Hid (Below w5.heap.size w5 w5) := Below.refl _ _
      have hbl1 : (b2 : Int) < (ys.length : Int) := by omega
      have hml1 : (m : Int) < (ys.length : Int) := by omega
      go_wp2_with fail
      refine wp_region_seq (fun w' => Below w5.heap.size w5 w' ∧ w'.cell? ⟨b, o + m * 3, none⟩ = some (.float .f64 u.r) ∧ w'.cell? ⟨b, o + m * 3 + 1, none⟩ = some (.float .f64 u.g) ∧ w'.cell? ⟨b, o + m * 3 + 2, none⟩ = some (.float .f64 u.b) ∧
          w'.cell? ⟨b, o + b2 * 3, none⟩ = some (.float .f64 v.r) ∧ w'.cell? ⟨b, o + b2 * 3 + 1, none⟩ = some (.float .f64 v.g) ∧ w'.cell? ⟨b, o + b2 * 3 + 2, none⟩ = some (.float .f64 v.b))
        (by kernel_rfl) (by kernel_rfl) (HS.out _ (nb_drew hst.out)) ?_
      show Seq _ _ _ _ [_, _, _, _, _, _, _, _, _, _, _, _, _, _, _, _, _, _, _, _] _
      repeat (first
        | (refine seq_skip (by rfl) ?_; (try simp only [Act.put, List.setIfInBounds_toArray, List.set_cons_zero, List.set_cons_succ]))
        | (refine seq_val ?_ (by rfl) ?_ ?_
           rotate_left 1
           · intro w6 hS6; go_simp; first | done | with_reducible rfl
           (try simp only [Act.put, List.setIfInBounds_toArray, List.set_cons_zero, List.set_cons_succ]))
        | (refine seq_call ?_ ?_ ?_ (by rfl) ?_ ?_ ?_
           rotate_left 3
           · intro w6 hS6; go_simp; (refine And.intro ?_ ?_ <;> rfl)
           · intro w6 hS6
             (with_reducible refine (Far_at HFR.out _).mono ?_); rintro e w7 ⟨rfl, hb7⟩; refine And.intro ?_ (HS.out _ (nb_next hb7 hS6.1)); rfl
           (try simp only [Act.put, List.setIfInBounds_toArray, List.set_cons_zero, List.set_cons_succ])))
      refine seq_end ?_
      intro w7 hS7
      obtain ⟨hf7, _⟩ := hS7
      have HB7 := Lib.hid (HB5.out.trans (hf7.mono HB5.out.size))
      clear hf7
      go_wp2_with fail
      go_ret
      exact ⟨rfl, HB7.out⟩
    · have hcn : (c2 != 0) = true := by simpa using hc2
      go_wp2_with fail
      go_ret
      exact ⟨rfl, HB5.out⟩
end Go.Proofs.Ytmjhhaejiabkdaa
