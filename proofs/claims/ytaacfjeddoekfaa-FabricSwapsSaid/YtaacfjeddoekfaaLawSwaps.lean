/- Chapter 12: the walk of FabricSwaps. -/
import Derived.Test.YtaacfjeddoekfaaLawCounts
import Derived.Test.YtaacfjeddoekfaaFabSwap3
import Derived.Test.YtaacfjeddoekfaaPlanTwo
namespace Go.Proofs.Ytaacfjeddoekfaa
open Go.RowKit
set_option linter.unusedVariables false
set_option linter.unusedSimpArgs false

/-- all that the walk asks of the lists that come up -/
theorem swap_facts {n : Int} {l : List Sti} (h : (runAF n l).1 = 0) : (runAF n l).2 = 0 ∧ ∃ G : List Sti → Prop, G l ∧ (∀ m, G m → m.length = l.length) ∧
    (∀ P x y Q, G (P ++ x :: y :: Q) → mayW x y (rackF P) = true → G (P ++ y :: x :: Q)) ∧
    (∀ m, G m → ∀ w v, Stitches w (fun b => b < w.heap.size) v m → Calls Try.prog 19 #[.int .i64 n, v] w fun e w' => ∃ kv, e = .returned (.tuple #[kv, .agg #[.int .i64 0, .int .i64 0]]) ∧ KnR w' (fun b => w.heap.size ≤ b ∧ b < w'.heap.size) kv (clothA n l) ∧ Below w.heap.size w w') := by
  obtain ⟨N, rfl, h1, h2, hg, e, e2⟩ := runA_ok h
  refine ⟨e2, AlikeC N l, ⟨rfl, hg, rfl⟩, fun m hm => hm.len, fun P x y Q hm hy => hm.swap h2 hy, fun m hm w v hv => ?_⟩
  have := Cloth_any (N : Int) w hv
  rw [(runA_of_good h1 h2 hm.fl).1, (runA_of_good h1 h2 hm.fl).2, hm.cl, ← (runA_of_good h1 h2 hg).2] at this
  exact this
theorem own_stis {w : World} {base n c : Nat} {A : Option Addr} {l : List Sti} (h : w.ownsRow base 44 5 (.slice A n c) n (l.flatMap Sti.cells)) (hl : l.length = n) : Stitches w (fun b => base ≤ b ∧ b < w.heap.size) (.slice A n c) l := by
  subst hl
  exact Stitches.of_own h

set_option maxRecDepth 100000 in
set_option maxHeartbeats 8000000 in
theorem swaps_walk (n : Int) {v va : Value} {l : List Sti} {at_ : List Int} {w : World} (hv : Stis w v l) (hw : Wide v) (ha : Ints w (fun b => b < w.heap.size) va at_) (hb : l.length * 40 ≤ 140737488351232) :
    Calls Try.prog 9 #[.int .i64 n, v, va] w fun e w' => e = .returned (.bool true) ∧ Below w.heap.size w w' := by
  have HV := Lib.hid hv.2
  have hv2 := hv.2
  have HCL : Hid (∀ w v, Stitches w (fun b => b < w.heap.size) v l → Calls Try.prog 19 #[.int .i64 n, v] w fun e w' => ∃ kv, e = .returned (.tuple #[kv, .agg #[.int .i64 (runAF n l).1, .int .i64 (runAF n l).2]]) ∧ KnR w' (fun b => w.heap.size ≤ b ∧ b < w'.heap.size) kv (clothA n l) ∧ Below w.heap.size w w') := fun w v hv => Cloth_any n w hv
  have HFA : Hid ((runAF n l).1 = 0 → _) := fun h => swap_facts (n := n) (l := l) h
  obtain ⟨A, cc, rfl, h1, h2, hr⟩ := hv2
  obtain ⟨Aa, ca, rfl, a1, a2, har⟩ := ha
  have HAR := Lib.hid har
  have HWD := Lib.hid hw
  clear hr hv har hw
  unfold maxLen at h2 a2
  generalize (runAF n l).1 = f1 at *
  generalize (runAF n l).2 = fi at *
  generalize clothA n l = kn at *
  go_enter Try.func9, Try.ntmps9
  go_wp2_with fail
  refine (fabAlive w).mono ?_
  rintro e w1 ⟨rfl, hb1⟩
  have HB1 := Lib.hid hb1
  clear hb1
  go_wp2_with fail
  refine (HCL.out _ _ (stis_grown HV.out HB1.out)).mono ?_
  rintro e w2 ⟨kv, rfl, hk, hb2⟩
  have HK := Lib.hid hk
  have HB2 := Lib.hid (HB1.out.trans (hb2.mono HB1.out.size))
  clear hb2 HCL
  obtain ⟨vl, vf, vb, vo, rfl, hl', hf', hb', ho'⟩ := hk
  obtain ⟨Aq, cq, tq, rfl, _⟩ := hl'
  obtain ⟨Af, cf, tf, rfl, _⟩ := hf'
  obtain ⟨Ab, cb, tb, rfl, _⟩ := hb'
  obtain ⟨Ap, cp, rfl, _⟩ := ho'
  have HX := Lib.hid ((Arr.new w2 #[.slice Aq kn.loops.length cq, .slice Af kn.front.length cf, .slice Ab kn.back.length cb, .slice Ap kn.loose.length cp, .int .i64 kn.rack] 27).alloc (.cells #[.int .i64 f1, .int .i64 fi] 30))
  have HX2 := Lib.hid (arr_new2 w2 (.cells #[.slice Aq kn.loops.length cq, .slice Af kn.front.length cf, .slice Ab kn.back.length cb, .slice Ap kn.loose.length cp, .int .i64 kn.rack] 27) #[.int .i64 f1, .int .i64 fi] 30)
  have HS23 : Hid (Below w2.heap.size w2 ((w2.alloc (.cells #[.slice Aq kn.loops.length cq, .slice Af kn.front.length cf, .slice Ab kn.back.length cb, .slice Ap kn.loose.length cp, .int .i64 kn.rack] 27)).alloc (.cells #[.int .i64 f1, .int .i64 fi] 30))) := ((Below.refl _ _).alloc (Nat.le_refl _) _).alloc (by simp) _
  have HZ3 : Hid (((w2.alloc (.cells #[.slice Aq kn.loops.length cq, .slice Af kn.front.length cf, .slice Ab kn.back.length cb, .slice Ap kn.loose.length cp, .int .i64 kn.rack] 27)).alloc (.cells #[.int .i64 f1, .int .i64 fi] 30)).heap.size = w2.heap.size + 2) := by show _ = _; simp
  go_upto_region 4 with fail
  generalize (w2.alloc (.cells #[.slice Aq kn.loops.length cq, .slice Af kn.front.length cf, .slice Ab kn.back.length cb, .slice Ap kn.loose.length cp, .int .i64 kn.rack] 27)).alloc (.cells #[.int .i64 f1, .int .i64 fi] 30) = w3 at *
  have HB3 := Lib.hid (HB2.out.trans (HS23.out.mono HB2.out.size))
  have e0 := HX2.out.cell (k := 0) rfl
  by_cases hz : f1 = 0
  case neg =>
    have hzb : (f1 != 0) = true := by simpa using hz
    clear hz
    go_wp2_with fail
    go_ret
    exact ⟨rfl, HB3.out⟩
  obtain ⟨hfi, G, g0, gl, gs, hcl⟩ := HFA.out hz
  subst hz
  subst hfi
  have HG0 := Lib.hid g0
  have HGL := Lib.hid gl
  have HGS := Lib.hid gs
  have HCL := Lib.hid hcl
  clear hcl HFA g0 gl gs
  have HO3 := Lib.hid (own_built w3 w3.heap.size 44 5 (Nat.le_refl _))
  have HB3' : Hid (Below w3.heap.size w3 (w3.alloc (.cells #[] 44))) := (Below.refl _ _).alloc (Nat.le_refl _) _
  have HR3 := Lib.hid ((srow_of (HV.out.same (Same.of_below HB3.out))).same (w' := w3.alloc (.cells #[] 44)) fun b hb => HB3'.out.block b (Nat.lt_of_lt_of_le hb HB3.out.size))
  go_upto_region 7 with (first
    | (at_builtin
       refine app_elsW T22 (l.flatMap Sti.cells) HO3.out HB3'.out (Nat.le_refl _) rfl rfl rfl rfl HWD.out HR3.out (sti_one l) ?_ ?_
       rotate_right
       intro v4 w4 hown4 hb4 hg4 ho4
       rw [Nat.zero_add] at hown4
       obtain ⟨Am, cm, rfl, hm1, hm2⟩ := own_form hown4
       have HO4 := Lib.hid hown4
       have HB4 := Lib.hid hb4
       clear hown4 hb4 hg4 ho4))
  case refine_1 => omega
  rw [List.nil_append] at HO4
  clear HO3 HB3' HR3 e0
  go_wp2_with fail
  go_loopg [32] at_.length (fun gg ctr wr => ∃ (i : Nat) (ms : List Sti), i ≤ at_.length ∧ gg = at_.length - i ∧ ctr = .int .i64 i ∧ wr.ownsRow w3.heap.size 44 5 (.slice Am l.length cm) l.length (ms.flatMap Sti.cells) ∧ Below w3.heap.size w3 wr ∧ G ms)
  case atStart => exact ⟨0, l, by omega, rfl, rfl, HO4.out, HB4.out, HG0.out⟩
  case round =>
    obtain ⟨i, ms, hi, rfl, rfl, ho, hbr, hg⟩ := hrel
    have HO := Lib.hid ho
    have HB := Lib.hid hbr
    have HG := Lib.hid hg
    clear ho hbr hg
    by_cases hlt : i < at_.length
    case pos =>
      have HBW := Lib.hid (HB3.out.trans (HB.out.mono HB3.out.size))
      have hml := HGL.out ms HG.out
      obtain ⟨b, o, e, _, z0⟩ := ints_cell (HAR.out.same (Same.of_below HBW.out)) hlt
      cases e
      generalize at_[i] = z at *
      by_cases hz0 : z < 0
      case pos =>
        have q : decide (z < 0) = true := decide_eq_true hz0
        clear hz0
        go_wp2_with fail
        go_roundg (at_.length - (i + 1))
        case measure => omega
        case rel => exact ⟨i + 1, ms, by omega, rfl, by go_num, HO.out, HB.out, HG.out⟩
      have q1 : decide (z < 0) = false := decide_eq_false hz0
      by_cases hz1 : z ≥ (l.length : Int) - 1
      case pos =>
        have q2 : decide (z ≥ (l.length : Int) - 1) = true := decide_eq_true hz1
        clear hz0 hz1
        go_wp2_with fail
        go_roundg (at_.length - (i + 1))
        case measure => omega
        case rel => exact ⟨i + 1, ms, by omega, rfl, by go_num, HO.out, HB.out, HG.out⟩
      obtain ⟨j, rfl⟩ : ∃ j : Nat, z = (j : Int) := ⟨z.toNat, by omega⟩
      have hj : j + 1 < l.length := by omega
      have q2 : decide ((j : Int) ≥ (l.length : Int) - 1) = false := decide_eq_false (by omega)
      clear hz0 hz1
      obtain ⟨g, rfl, hg3, hgw, _⟩ := own_some HO.out (by omega)
      go_wp2_with fail
      generalize hwq : wr = wq at *
      clear hwq
      go_loopg [12, 49] j (fun gg rk ctr wr => ∃ k : Nat, k ≤ j ∧ gg = j - k ∧ ctr = .int .i64 k ∧ rk = .int .i64 (rackF (ms.take k)) ∧ Below wq.heap.size wq wr)
      case atStart => exact ⟨0, by omega, rfl, rfl, rfl, Below.refl _ _⟩
      case round =>
        obtain ⟨k, hk, rfl, rfl, rfl, hbi⟩ := hrel
        have HBI := Lib.hid hbi
        have HOI := Lib.hid (own_below HO.out hbi (Nat.le_refl _))
        clear hbi
        by_cases hlk : k < j
        case pos =>
          have hkm : k < ms.length := by omega
          obtain ⟨x0, x1, x2, x3, x4⟩ := own_sti HOI.out hkm
          have HS := Lib.hid (rackF_snoc hkm)
          have HBN : Hid (∀ o, Below wq.heap.size wq (wr.alloc o)) := fun o => HBI.out.alloc HBI.out.size o
          generalize ms[k] = x at *
          generalize rackF (ms.take k) = rk at *
          by_cases d6 : x.d = 6
          · have q6 : (x.d == 6) = true := by simpa using d6
            have HE : Hid (rackF (ms.take (k + 1)) = x.t) := by show _ = _; rw [HS.out, if_pos d6]
            clear d6
            go_wp2_with fail
            go_roundg (j - (k + 1))
            case measure => omega
            case rel => exact ⟨k + 1, by omega, rfl, by go_num, by rw [HE.out], HBN.out _⟩
          · have q6 : (x.d == 6) = false := by simpa using d6
            have HE : Hid (rackF (ms.take (k + 1)) = rk) := by show _ = _; rw [HS.out, if_neg d6]
            clear d6
            go_wp2_with fail
            go_roundg (j - (k + 1))
            case measure => omega
            case rel => exact ⟨k + 1, by omega, rfl, by go_num, by rw [HE.out], HBN.out _⟩
        obtain rfl : k = j := by omega
        have h0m : k < ms.length := by omega
        have h1m : k + 1 < ms.length := by omega
        obtain ⟨x0, x1, x2, x3, x4⟩ := own_sti HOI.out h0m
        obtain ⟨y0, y1, y2, y3, y4⟩ := own_sti HOI.out h1m
        have HSP := Lib.hid (split_two h1m)
        have HPL : Hid ((ms.take k).length = k) := by show _ = _; rw [List.length_take]; omega
        generalize ms[k] = x at *
        generalize ms[k + 1] = y at *
        generalize ms.take k = P at *
        generalize ms.drop (k + 2) = R at *
        go_wp2_with fail
        have HMAY : Hid (∀ w, _) := fun w => May_any x y (rackF P) w
        have HBd : Hid (Below wr.heap.size wr wr.drew) := below_dN (n := 1) (Below.refl _ _)
        have i1 : (0 : Int) ≤ (k : Int) := by omega
        have i2 : (k : Int) < (l.length : Int) := by omega
        have i3 : IntKind.i64.wrap ((k : Int) + 1) = (k : Int) + 1 := (IntWalk.i64_left _).trans (IntWalk.wrap64_in _ (by omega))
        have i4 : (0 : Int) ≤ (k : Int) + 1 := by omega
        have i5 : (k : Int) + 1 < (l.length : Int) := by omega
        have i6 : ((k : Int) + 1).toNat = k + 1 := by omega
        go_region_held3 (fun w' => w'.cell? ⟨g, k * 5, none⟩ = some (.int .i64 x.d) ∧ w'.cell? ⟨g, k * 5 + 1, none⟩ = some (.int .i64 x.b) ∧ w'.cell? ⟨g, k * 5 + 2, none⟩ = some (.int .i64 x.n) ∧ w'.cell? ⟨g, k * 5 + 3, none⟩ = some (.int .i64 x.c) ∧ w'.cell? ⟨g, k * 5 + 4, none⟩ = some (.int .i64 x.t) ∧
            w'.cell? ⟨g, (k + 1) * 5, none⟩ = some (.int .i64 y.d) ∧ w'.cell? ⟨g, (k + 1) * 5 + 1, none⟩ = some (.int .i64 y.b) ∧ w'.cell? ⟨g, (k + 1) * 5 + 2, none⟩ = some (.int .i64 y.n) ∧ w'.cell? ⟨g, (k + 1) * 5 + 3, none⟩ = some (.int .i64 y.c) ∧ w'.cell? ⟨g, (k + 1) * 5 + 4, none⟩ = some (.int .i64 y.t)) (go_keep)
          (first
            | (go_at_call 21
               refine (HMAY.out _).mono ?_
               rintro e w6 ⟨rfl, hb6⟩
               have HB6 : Hid (Below wq.heap.size wq w6) := HBI.out.trans ((HBd.out.trans (hb6.mono (Nat.le_refl _))).mono HBI.out.size)
               have HO6 := Lib.hid (own_below HO.out HB6.out (Nat.le_refl _))
               have HC6 := own_swap_cells HO6.out HSP.out HPL.out
               obtain ⟨p0, p1, p2, p3, p4, s0, s1, s2, s3, s4⟩ := HC6
               clear hb6))
        clear x0 x1 x2 x3 x4 y0 y1 y2 y3 y4
        have HBW6 := Lib.hid (HB.out.trans (HB6.out.mono HB.out.size))
        by_cases hm : mayW x y (rackF P) = true
        case neg =>
          have hm' : mayW x y (rackF P) = false := by simpa using hm
          clear hm
          rw [hm']
          go_wp2_with fail
          go_roundg (at_.length - (i + 1))
          case measure => omega
          case rel => exact ⟨i + 1, ms, by omega, rfl, by go_num, HO6.out, HBW6.out, HG.out⟩
        case pos =>
          have HM := Lib.hid hm
          rw [hm]
          clear hm
          go_wp2_with fail
          have z0 := own_free HO6.out (k * 5)
          have z1 := own_free HO6.out (k * 5 + 1)
          have z2 := own_free HO6.out (k * 5 + 2)
          have z3 := own_free HO6.out (k * 5 + 3)
          have z4 := own_free HO6.out (k * 5 + 4)
          have r0 := own_free HO6.out ((k + 1) * 5)
          have r1 := own_free HO6.out ((k + 1) * 5 + 1)
          have r2 := own_free HO6.out ((k + 1) * 5 + 2)
          have r3 := own_free HO6.out ((k + 1) * 5 + 3)
          have r4 := own_free HO6.out ((k + 1) * 5 + 4)
          have HSW := Lib.hid (own_swapK HO6.out HSP.out HPL.out)
          have HBS := Lib.hid (below_one HBW6.out HSW.out.2 (Nat.le_refl _) hg3)
          unfold set5 at HSW HBS
          have HG' : Hid (G (P ++ y :: x :: R)) := HGS.out _ _ _ _ (by rw [← HSP.out]; exact HG.out) HM.out
          go_region
          go_wp2_with fail
          go_roundg (at_.length - (i + 1))
          case measure => omega
          case rel => exact ⟨i + 1, P ++ y :: x :: R, by omega, rfl, by go_num, HSW.out.1.drew, HBS.out.drew, HG'.out⟩
    obtain rfl : i = at_.length := by omega
    have HBW := Lib.hid (HB3.out.trans (HB.out.mono HB3.out.size))
    have HST : Hid (Stitches wr (fun b => b < wr.heap.size) (.slice Am l.length cm) ms) := (own_stis HO.out (HGL.out ms HG.out)).mono fun b hb => hb.2
    have hz34 : w2.heap.size + 2 ≤ wr.heap.size := by rw [← HZ3.out]; exact HB.out.size
    go_wp2_with fail
    refine (HCL.out _ HG.out _ _ HST.out).mono ?_
    rintro e w5 ⟨kv2, rfl, hk2, hb5⟩
    have HB5 := Lib.hid hb5
    have HK2 := Lib.hid hk2
    have hz45 := hb5.size
    clear hb5 HCL
    obtain ⟨vl2, vf2, vb2, vo2, rfl, hl', hf', hb', ho'⟩ := hk2
    obtain ⟨Aq2, cq2, tq2, rfl, _⟩ := hl'
    obtain ⟨Af2, cf2, tf2, rfl, _⟩ := hf'
    obtain ⟨Ab2, cb2, tb2, rfl, _⟩ := hb'
    obtain ⟨Ap2, cp2, rfl, _⟩ := ho'
    have HX5 := Lib.hid ((HX.out.of_eq (HB.out.block _ HX.out.lt)).of_eq (HB5.out.block _ (by omega)))
    have HY5 := Lib.hid ((HX2.out.of_eq (HB.out.block _ HX2.out.lt)).of_eq (HB5.out.block _ (by omega)))
    have y0 := HY5.out.cell (k := 0) rfl
    have y1 := HY5.out.cell (k := 1) rfl
    have g0 := HY5.out.free 0
    have g1 := HY5.out.free 1
    have hgs : w2.heap.size + 1 < w5.heap.size := by omega
    go_upto_region 22 with fail
    have HZ7 : Hid ((((w5.setCell ⟨w2.heap.size + 1, 0, none⟩ (.int .i64 0)).setCell ⟨w2.heap.size + 1, 1, none⟩ (.int .i64 0)).alloc (.cells #[.slice Aq2 kn.loops.length cq2, .slice Af2 kn.front.length cf2, .slice Ab2 kn.back.length cb2, .slice Ap2 kn.loose.length cp2, .int .i64 kn.rack] 27)).heap.size = w5.heap.size + 1) := by show _ = _; simp [World.setCell]
    have HF7 : Hid (∀ x, x ≠ w2.heap.size + 1 → x < w5.heap.size → (((w5.setCell ⟨w2.heap.size + 1, 0, none⟩ (.int .i64 0)).setCell ⟨w2.heap.size + 1, 1, none⟩ (.int .i64 0)).alloc (.cells #[.slice Aq2 kn.loops.length cq2, .slice Af2 kn.front.length cf2, .slice Ab2 kn.back.length cb2, .slice Ap2 kn.loose.length cp2, .int .i64 kn.rack] 27)).heap[x]? = w5.heap[x]?) := fun x hx h2 =>
      (((Below.refl _ _).alloc (Nat.le_refl _) _).block x (by rw [two_size]; exact h2)).trans (two_block _ _ _ _ _ hx)
    have HY7 : Hid (Arr (((w5.setCell ⟨w2.heap.size + 1, 0, none⟩ (.int .i64 0)).setCell ⟨w2.heap.size + 1, 1, none⟩ (.int .i64 0)).alloc (.cells #[.slice Aq2 kn.loops.length cq2, .slice Af2 kn.front.length cf2, .slice Ab2 kn.back.length cb2, .slice Ap2 kn.loose.length cp2, .int .i64 kn.rack] 27)) (w2.heap.size + 1) 30 [.int .i64 0, .int .i64 0]) := ((HY5.out.set 0 (.int .i64 0)).set 1 (.int .i64 0)).alloc _
    have HN7 : Hid (Arr (((w5.setCell ⟨w2.heap.size + 1, 0, none⟩ (.int .i64 0)).setCell ⟨w2.heap.size + 1, 1, none⟩ (.int .i64 0)).alloc (.cells #[.slice Aq2 kn.loops.length cq2, .slice Af2 kn.front.length cf2, .slice Ab2 kn.back.length cb2, .slice Ap2 kn.loose.length cp2, .int .i64 kn.rack] 27)) w5.heap.size 27 [.slice Aq2 kn.loops.length cq2, .slice Af2 kn.front.length cf2, .slice Ab2 kn.back.length cb2, .slice Ap2 kn.loose.length cp2, .int .i64 kn.rack]) := by
      have := Arr.new ((w5.setCell ⟨w2.heap.size + 1, 0, none⟩ (.int .i64 0)).setCell ⟨w2.heap.size + 1, 1, none⟩ (.int .i64 0)) #[.slice Aq2 kn.loops.length cq2, .slice Af2 kn.front.length cf2, .slice Ab2 kn.back.length cb2, .slice Ap2 kn.loose.length cp2, .int .i64 kn.rack] 27
      rw [two_size] at this
      exact this
    have HBW7 : Hid (Below w.heap.size w (((w5.setCell ⟨w2.heap.size + 1, 0, none⟩ (.int .i64 0)).setCell ⟨w2.heap.size + 1, 1, none⟩ (.int .i64 0)).alloc (.cells #[.slice Aq2 kn.loops.length cq2, .slice Af2 kn.front.length cf2, .slice Ab2 kn.back.length cb2, .slice Ap2 kn.loose.length cp2, .int .i64 kn.rack] 27))) := by
      have h1 := HBW.out.trans (HB5.out.mono HBW.out.size)
      have h2 : w.heap.size ≤ w2.heap.size + 1 := by have := HB2.out.size; omega
      exact ((h1.setCell h2 _).setCell h2 _).alloc (by rw [two_size]; exact h1.size) _
    clear y0 y1 g0 g1
    generalize (((w5.setCell ⟨w2.heap.size + 1, 0, none⟩ (.int .i64 0)).setCell ⟨w2.heap.size + 1, 1, none⟩ (.int .i64 0)).alloc (.cells #[.slice Aq2 kn.loops.length cq2, .slice Af2 kn.front.length cf2, .slice Ab2 kn.back.length cb2, .slice Ap2 kn.loose.length cp2, .int .i64 kn.rack] 27)) = w7 at *
    have HX7 := Lib.hid (HX5.out.of_eq (HF7.out w2.heap.size (by omega) (by omega)))
    have a0 := HX7.out.cell (k := 0) rfl
    have a1 := HX7.out.cell (k := 1) rfl
    have a2 := HX7.out.cell (k := 2) rfl
    have a3 := HX7.out.cell (k := 3) rfl
    have a4 := HX7.out.cell (k := 4) rfl
    have b0 := HY7.out.cell (k := 0) rfl
    have c0 := HN7.out.cell (k := 0) rfl
    have c1 := HN7.out.cell (k := 1) rfl
    have c2 := HN7.out.cell (k := 2) rfl
    have c3 := HN7.out.cell (k := 3) rfl
    have c4 := HN7.out.cell (k := 4) rfl
    go_wp2_with fail
    refine (Same_self w7 (S := fun b => b < w2.heap.size) (T := fun b => b < w5.heap.size ∧ wr.heap.size ≤ b) ((HK.out.mono (T := fun b => b < w2.heap.size) fun b hb => hb.2).same fun b hb => ?_) ((HK2.out.mono (T := fun b => b < w5.heap.size ∧ wr.heap.size ≤ b) fun b hb => ⟨hb.2, hb.1⟩).same fun b hb => HF7.out b (by have := hb.2; omega) hb.1) (fun b hb => by have : b < w2.heap.size := hb; rw [HZ7.out]; omega) (fun b hb => by have := hb.1; rw [HZ7.out]; omega)).mono ?_
    · have hb : b < w2.heap.size := hb
      exact (((HF7.out b (by omega) (by omega)).trans (HB5.out.block b (by omega))).trans (HB.out.block b (by rw [HZ3.out]; omega))).trans (HS23.out.block b hb)
    rintro e w8 ⟨rfl, hb8⟩
    have HB8 := Lib.hid (HBW7.out.trans (hb8.mono HBW7.out.size))
    clear hb8
    go_wp2_with fail
    go_ret
    exact ⟨rfl, HB8.out⟩
end Go.Proofs.Ytaacfjeddoekfaa
