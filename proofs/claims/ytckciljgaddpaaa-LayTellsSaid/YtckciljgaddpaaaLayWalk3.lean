/- Chapter 16: the program's Lay. -/
import Derived.Test.YtckciljgaddpaaaLayMem
namespace Go.Proofs.Ytckciljgaddpaaa
open Go.RowKit
set_option linter.unusedVariables false

theorem T39 : SliceT Try.prog 39 3 (.int .i64 0) 1 8 := ⟨Try.underlying39, by kernel_rfl, rfl, by decide, by decide⟩
theorem T24 : SliceT Try.prog 24 36 (.agg #[.int .i64 0, .int .i64 0]) 2 16 := ⟨Try.underlying24, by kernel_rfl, rfl, by decide, by decide⟩

/-- where the pieces lie behind t of them -/
def qOf (W : Int) (ps : List Pc) (σ τ : Nat → Nat) (t k : Nat) : Pt := if τ k < t then ⟨pX W (wOf ps) (hOf ps) σ (τ k), pY W (wOf ps) (hOf ps) σ (τ k)⟩ else ⟨0, 0⟩
theorem qOf_next {W : Int} {ps : List Pc} {σ τ : Nat → Nat} (h : Ord (hOf ps) ps.length σ τ) (t k : Nat) :
    (if k = σ t then ⟨pX W (wOf ps) (hOf ps) σ t, pY W (wOf ps) (hOf ps) σ t⟩ else qOf W ps σ τ t k) = qOf W ps σ τ (t + 1) k := by
  unfold qOf
  by_cases e : k = σ t
  · subst e; rw [if_pos rfl, h.ts, if_pos (by omega)]
  · rw [if_neg e]
    have : τ k ≠ t := fun e2 => e (by rw [← e2, h.st])
    by_cases c : τ k < t
    · rw [if_pos c, if_pos (by omega)]
    · rw [if_neg c, if_neg (by omega)]
theorem ord_of {ps : List Pc} {h : Nat → Int} (hr : Rear (fun k => (k : Int)) h 0 ps.length) (hs : Sd (keyH ps) h 0 ps.length) : ∃ σ τ, Ord (hOf ps) ps.length σ τ ∧ ∀ k, h k = (σ k : Int) := by
  obtain ⟨σ, τ, h1, h2, h3, h4⟩ := hr
  refine ⟨σ, τ, ⟨h1, h2, fun k hk => h3 k (.inr hk), fun s t hst ht => ?_, fun s t hst ht he => ?_⟩, h4⟩
  · have := hs.le (Nat.zero_le s) hst ht
    unfold keyH at this
    rw [h4, h4] at this
    simp only [Int.toNat_natCast] at this
    omega
  · have := hs s t (Nat.zero_le s) hst ht
    unfold ltK keyH at this
    rw [h4, h4] at this
    simp only [Int.toNat_natCast] at this
    omega
theorem hi_le {W : Int} {ps : List Pc} {σ τ : Nat → Nat} (hp : Pcs W (wOf ps) (hOf ps) ps.length) (ho : Ord (hOf ps) ps.length σ τ) (hW : 1 ≤ W) (hh : ∀ i, i < ps.length → hOf ps i ≤ 1048576) : ∀ t, t ≤ ps.length → (ss W (wOf ps) (hOf ps) σ t).hi ≤ 1048576 * t
  | 0, _ => by show (0 : Int) ≤ _; omega
  | t + 1, ht => by
    have ih := hi_le hp ho hW hh t (by omega)
    have sh := sh_all hp ho hW t (by omega)
    have h0 := hp.h0 _ (ho.lt (show t < ps.length by omega))
    have h1 := hh _ (ho.lt (show t < ps.length by omega))
    have eh : (ss W (wOf ps) (hOf ps) σ (t + 1)).hi = (ss W (wOf ps) (hOf ps) σ t).ht W (wOf ps (σ t)) (hOf ps (σ t)) := rfl
    have yh := sh.yh
    rw [eh]
    unfold SS.ht SS.py
    split
    · split <;> omega
    · omega

set_option maxRecDepth 100000 in
set_option maxHeartbeats 4000000 in
theorem Lay_ok {v : Value} {ps : List Pc} (W : Int) (w : World) (hv : Pieces w (fun b => b < w.heap.size) v ps) (hW1 : 1 ≤ W) (hW2 : W ≤ 1048576) (hn : ps.length ≤ 256) (hok : ∀ i (hi : i < ps.length), ¬ ps[i].bad W) :
    Calls Try.prog 7 #[.int .i64 W, v] w fun e w' => ∃ σ τ, Ord (hOf ps) ps.length σ τ ∧ ∃ u, e = .returned (.tuple #[u, .int .i64 (ss W (wOf ps) (hOf ps) σ ps.length).hi, .int .i64 0]) ∧
      Points w' (fun b => w.heap.size ≤ b ∧ b < w'.heap.size) u ((List.range ps.length).map (qOf W ps σ τ ps.length)) ∧ Below w.heap.size w w' := by
  have HV := Lib.hid hv
  have HOK := Lib.hid hok
  clear hok
  obtain ⟨A, c, rfl, h1, h2, hr⟩ := hv
  clear hr
  unfold maxLen at h2
  have hbe : Hid (Below w.heap.size w (w.alloc (.cells #[.slice A ps.length c] 22))) := (Below.refl _ _).alloc (Nat.le_refl _) _
  have mk1 := fun w => run_mk T39 ps.length ps.length (Nat.le_refl _) (by omega) w
  have mk2 := fun w => run_mk T24 ps.length ps.length (Nat.le_refl _) (by omega) w
  go_enter Try.func7, Try.ntmps7
  go_wp2_with fail
  refine (wrong_ok W _ ((HV.out.same (Same.of_below hbe.out)).mono fun i h => Nat.lt_of_lt_of_le h hbe.out.size) hW1 hW2 hn HOK.out).mono ?_
  rintro e w1 ⟨rfl, hb1⟩
  have HX1 : Hid (Arr w1 w.heap.size 22 [.slice A ps.length c]) := (Arr.new w #[.slice A ps.length c] 22).of_eq (hb1.block _ (by simp))
  have HB1 := Lib.hid (hbe.out.trans (hb1.mono (by simp)))
  have x0 := HX1.out.cell (k := 0) rfl
  clear hb1
  go_wp2_with fail
  have HI0 := Lib.hid (IR.new w1 ps.length (by unfold maxLen; omega))
  have HF0 : Hid (Below w1.heap.size w1 (w1.alloc (.cells (madeCells #[.int .i64 0] ps.length) 3))) := (Below.refl _ _).alloc (Nat.le_refl _) _
  clear x0
  go_loopg [26] ps.length (fun gg ctr wr => ∃ i : Nat, i ≤ ps.length ∧ gg = ps.length - i ∧ ctr = .int .i64 i ∧ Below w1.heap.size w1 wr ∧ IR wr w1.heap.size w1.heap.size ps.length ps.length (fun k => if k < i then (k : Int) else 0))
  case atStart => exact ⟨0, by omega, rfl, rfl, HF0.out, HI0.out.congr fun k _ => by simp⟩
  case round =>
    clear HF0 HI0
    obtain ⟨i, hi, rfl, rfl, hb, hir⟩ := hrel
    have HB := Lib.hid hb
    have HI := Lib.hid hir
    clear hb hir
    by_cases hlt : i < ps.length
    case pos =>
      have z0 := HI.out.free i
      have y0 : wr.cell? ⟨w1.heap.size, i, none⟩ = some (.int .i64 0) := by have := HI.out.cell hlt; simpa using this
      have HN : Hid (IR (wr.setCell ⟨w1.heap.size, i, none⟩ (.int .i64 i)) w1.heap.size w1.heap.size ps.length ps.length (fun k => if k < i + 1 then (k : Int) else 0)) := (HI.out.set hlt (i : Int)).congr fun k _ => by
        by_cases h : k = i
        · subst h; simp
        · rw [if_neg h]
          by_cases h2 : k < i
          · rw [if_pos h2, if_pos (by omega)]
          · rw [if_neg h2, if_neg (by omega)]
      have HBN := Lib.hid (HB.out.setCell (p := ⟨w1.heap.size, i, none⟩) (Nat.le_refl _) (.int .i64 i))
      go_wp2_with fail
      go_roundg (ps.length - (i + 1))
      case measure => omega
      case rel => exact ⟨i + 1, by omega, rfl, by go_num, HBN.out, HN.out⟩
    obtain rfl : i = ps.length := by omega
    clear hi hlt
    have HID : Hid (IR wr w1.heap.size w1.heap.size ps.length ps.length (fun k => (k : Int))) := HI.out.congr fun k hk => by rw [if_pos hk]
    have HXW : Hid (Arr wr w.heap.size 22 [.slice A ps.length c]) := HX1.out.of_eq (HB.out.block _ HX1.out.lt)
    have HBW := Lib.hid (HB1.out.trans (HB.out.mono HB1.out.size))
    have hwlt : w.heap.size < w1.heap.size := HX1.out.lt
    have HC : Hid (Cmp wr w1.heap.size ps.length (.func (.func 14) #[] #[.pointer (some ⟨w.heap.size, 0, none⟩)]) (keyH ps)) :=
      cmp_pieces ((HV.out.same (Same.of_below HBW.out)).mono fun i h => by omega) (HXW.out.cell (k := 0) rfl) hwlt HB.out.size
    clear HI
    go_wp2_with fail
    refine (sort_any _ HID.out HC.out (Below.refl _ _) (by omega) (fun _ _ => rfl)).mono ?_
    rintro e w3 ⟨rfl, h, hs, hr, hd⟩
    obtain ⟨σ, τ, ho, hh⟩ := ord_of hr hd
    have HS := Lib.hid hs
    have HO := Lib.hid ho
    have HH := Lib.hid hh
    clear hs hr hd ho hh
    have HB3 : Hid (Below w1.heap.size w1 w3) := HS.out.below HB.out (Nat.le_refl _)
    have HX3 : Hid (Arr w3 w.heap.size 22 [.slice A ps.length c]) := HX1.out.of_eq (HB3.out.block _ HX1.out.lt)
    have x0 := HX3.out.cell (k := 0) rfl
    go_wp2_with fail
    have HG2 := Lib.hid (PR.new w3 ps.length (by unfold maxLen; omega))
    have hsz : Hid (w3.heap.size = wr.heap.size) := HS.out.2.1
    obtain ⟨g1, hg1⟩ : ∃ g1, g1 = w1.heap.size := ⟨_, rfl⟩
    obtain ⟨g2, hg2⟩ : ∃ g2, g2 = w3.heap.size := ⟨_, rfl⟩
    have HLS : Hid (LS w ((w3.alloc (.cells (madeCells #[.int .i64 0, .int .i64 0] (ps.length * 2)) 36)).alloc (.cells #[.int .i64 0, .int .i64 0] 36)) w.heap.size g1 g2 (g2 + 1) ps.length (.slice A ps.length c) h (qOf W ps σ τ 0) 0 0) := by
      have hw3 : Below w.heap.size w w3 := HB1.out.trans (HB3.out.mono HB1.out.size)
      have hio : IR w3 w1.heap.size w1.heap.size ps.length ps.length h := HS.out.2.2
      have hnx := Arr.new (w3.alloc (.cells (madeCells #[.int .i64 0, .int .i64 0] (ps.length * 2)) 36)) #[.int .i64 0, .int .i64 0] 36
      rw [World.size_alloc] at hnx
      have hl := hio.le.2
      subst hg1 hg2
      exact ⟨(hw3.alloc hw3.size _).alloc (by have := hw3.size; simp; omega) _, (HX3.out.alloc _).alloc _, World.ownsRow.alloc (World.ownsRow.alloc hio _) _, (PR.congr (own_al HG2.out _) fun k _ => by unfold qOf; rw [if_neg (by omega)]), hnx, Nat.le_refl _, hwlt, hl, Nat.lt_succ_self _⟩
    have HPC : Hid (Pcs W (wOf ps) (hOf ps) ps.length ∧ ∀ i, i < ps.length → hOf ps i ≤ 1048576) := by
      have key : ∀ i (hi : i < ps.length), 1 ≤ wOf ps i ∧ wOf ps i ≤ W ∧ 1 ≤ hOf ps i ∧ hOf ps i ≤ 1048576 := fun i hi => by
        have := HOK.out i hi
        unfold Pc.bad at this
        unfold wOf hOf
        rw [pc_getD hi]
        omega
      exact ⟨⟨fun i hi => (key i hi).1, fun i hi => (key i hi).2.1, fun i hi => (key i hi).2.2.1⟩, fun i hi => (key i hi).2.2.2⟩
    clear HG2 HB3 HS HX3 x0
    rw [← hg1, ← hg2]
    clear hg1 hg2 hsz
    go_loopg [12, 42] ps.length (fun gg sh ctr wr => ∃ t : Nat, t ≤ ps.length ∧ gg = ps.length - t ∧ ctr = .int .i64 t ∧ sh = .int .i64 (ss W (wOf ps) (hOf ps) σ t).hi ∧
      LS w wr w.heap.size g1 g2 (g2 + 1) ps.length (.slice A ps.length c) h (qOf W ps σ τ t) (ss W (wOf ps) (hOf ps) σ t).x (ss W (wOf ps) (hOf ps) σ t).y)
    case atStart => exact ⟨0, by omega, rfl, rfl, rfl, HLS.out⟩
    case round =>
      clear HLS
      obtain ⟨t, ht, rfl, rfl, rfl, hls⟩ := hrel
      have HL := Lib.hid hls
      clear hls
      by_cases hlt : t < ps.length
      case neg =>
        obtain rfl : t = ps.length := by omega
        go_wp2_with fail
        go_ret3
        exact ⟨σ, τ, HO.out, _, rfl, HL.out.at_.els.mono fun i h => ⟨by have := HL.out.l0; have := HL.out.l1; have := HL.out.l2; omega, h.2⟩, HL.out.below⟩
      have hil := HO.out.lt hlt
      obtain ⟨b, o, e, _, p0, p1⟩ := pc_cells (prow_of (HV.out.same (Same.of_below HL.out.below))) hil
      cases e
      have y0 := HL.out.ord.cell hlt
      rw [HH.out t] at y0
      have HEQ : Hid (wOf ps (σ t) = ps[σ t].w ∧ hOf ps (σ t) = ps[σ t].h) := by
        show _ ∧ _
        unfold wOf hOf
        rw [pc_getD hil]
        exact ⟨rfl, rfl⟩
      rw [← HEQ.out.1] at p0
      rw [← HEQ.out.2] at p1
      have b0 := HL.out.box.cell (k := 0) rfl
      have n0 := HL.out.nx.cell (k := 0) rfl
      have n1 := HL.out.nx.cell (k := 1) rfl
      have z0 := HL.out.nx.free 0
      have z1 := HL.out.nx.free 1
      have a0 := HL.out.at_.cellX hil
      have a1 := HL.out.at_.cellY hil
      have z2 := HL.out.at_.free (σ t * 2)
      have z3 := HL.out.at_.free (σ t * 2 + 1)
      have sh := sh_all HPC.out.1 HO.out hW1 t (by omega)
      have s1 := sh.x0
      have s2 := sh.x1
      have s3 := sh.y0
      have s4 := sh.yh
      have s5 := hi_le HPC.out.1 HO.out hW1 HPC.out.2 t (by omega)
      have d0 := HPC.out.1.w0 _ hil
      have d1 := HPC.out.1.w1 _ hil
      have d2 := HPC.out.1.h0 _ hil
      have d3 := HPC.out.2 _ hil
      have k0 : w.heap.size < g1 := HL.out.l1
      have k1 : g1 < g2 := HL.out.l2
      have HNX : Hid (ss W (wOf ps) (hOf ps) σ (t + 1) = (ss W (wOf ps) (hOf ps) σ t).next W (wOf ps (σ t)) (hOf ps (σ t))) := rfl
      have HQ := Lib.hid (qOf_next (W := W) HO.out t)
      have HPX : Hid (pX W (wOf ps) (hOf ps) σ t = (ss W (wOf ps) (hOf ps) σ t).px W (wOf ps (σ t)) ∧ pY W (wOf ps) (hOf ps) σ t = (ss W (wOf ps) (hOf ps) σ t).py W (wOf ps (σ t))) := ⟨rfl, rfl⟩
      generalize hq : qOf W ps σ τ t (σ t) = qq at *
      have HQQ := Lib.hid hq
      clear hq sh
      generalize wOf ps (σ t) = pw at *
      generalize hOf ps (σ t) = ph at *
      generalize ss W (wOf ps) (hOf ps) σ t = S at *
      have hcs : (S.x + pw > W) ∨ (S.x + pw ≤ W ∧ S.x = 0) ∨ (S.x + pw ≤ W ∧ 0 < S.x) := by omega
      rcases hcs with c1 | ⟨c1, c2⟩ | ⟨c1, c2⟩
      · have HE : Hid (S.px W pw = 0 ∧ S.py W pw = S.hi ∧ S.ht W pw ph = S.hi + ph) := by
          show _ ∧ _ ∧ _
          unfold SS.ht SS.px SS.py
          rw [if_pos c1, if_pos c1, if_pos rfl]; exact ⟨rfl, rfl, rfl⟩
        have HRES : Hid (∀ k, (if k = σ t then (⟨0, S.hi⟩ : Pt) else qOf W ps σ τ t k) = qOf W ps σ τ (t + 1) k) := fun k => by
          have := HQ.out k
          rw [HPX.out.1, HPX.out.2, HE.out.1, HE.out.2.1] at this
          exact this
        have HFIN : Hid ((ss W (wOf ps) (hOf ps) σ (t + 1)).hi = S.hi + ph ∧ (ss W (wOf ps) (hOf ps) σ (t + 1)).x = 0 + pw ∧ (ss W (wOf ps) (hOf ps) σ (t + 1)).y = S.hi) := by
          show _ ∧ _ ∧ _
          rw [HNX.out]
          exact ⟨HE.out.2.2, by show S.px W pw + pw = _; rw [HE.out.1], HE.out.2.1⟩
        go_wp2_with (go_quiet (fail))
        rename_i nqa
        have HW5 := Lib.hid ((((HL.out.dN nqa).two 0 S.hi).dN nq).put hil 0 S.hi)
        clear n0 n1 z0 z1 a0 a1 z2 z3 p0 p1 b0 y0
        generalize (((((wr.drewN nqa).setCell ⟨g2 + 1, 0, none⟩ (.int .i64 0)).setCell ⟨g2 + 1, 1, none⟩ (.int .i64 S.hi)).drewN nq).setCell ⟨g2, σ t * 2, none⟩ (.int .i64 0)).setCell ⟨g2, σ t * 2 + 1, none⟩ (.int .i64 S.hi) = w5 at *
        obtain ⟨b', o', e', _, p0, p1⟩ := pc_cells (prow_of (HV.out.same (Same.of_below HW5.out.below))) hil
        cases e'
        rw [← HEQ.out.1] at p0
        have b0 := HW5.out.box.cell (k := 0) rfl
        have n0 := HW5.out.nx.cell (k := 0) rfl
        have z0 := HW5.out.nx.free 0
        clear p1
        go_region
        go_wp2_with fail
        go_roundg (ps.length - (t + 1))
        case measure => omega
        case rel => exact ⟨t + 1, by omega, rfl, by go_num, by rw [HFIN.out.1], by rw [HFIN.out.2.1, HFIN.out.2.2, Int.zero_add]; exact ((HW5.out.one pw).drew).congr fun k _ => HRES.out k⟩
      · have hx0 : (S.x == 0) = true := by simpa using c2
        have n3 : ¬ S.x + pw > W := by omega
        have HC2 := Lib.hid c2
        clear c2
        have HE : Hid (S.px W pw = S.x ∧ S.py W pw = S.y ∧ S.ht W pw ph = S.y + ph) := by
          show _ ∧ _ ∧ _
          unfold SS.ht SS.px SS.py
          rw [if_neg n3, if_neg n3, if_pos HC2.out]; exact ⟨rfl, rfl, rfl⟩
        have HRES : Hid (∀ k, (if k = σ t then (⟨S.x, S.y⟩ : Pt) else qOf W ps σ τ t k) = qOf W ps σ τ (t + 1) k) := fun k => by
          have := HQ.out k
          rw [HPX.out.1, HPX.out.2, HE.out.1, HE.out.2.1] at this
          exact this
        have HFIN : Hid ((ss W (wOf ps) (hOf ps) σ (t + 1)).hi = S.y + ph ∧ (ss W (wOf ps) (hOf ps) σ (t + 1)).x = S.x + pw ∧ (ss W (wOf ps) (hOf ps) σ (t + 1)).y = S.y) := by
          show _ ∧ _ ∧ _
          rw [HNX.out]
          exact ⟨HE.out.2.2, by show S.px W pw + pw = _; rw [HE.out.1], HE.out.2.1⟩
        go_wp2_with (go_quiet (fail))
        rename_i nqa
        have HW5 := Lib.hid ((HL.out.dN (nqa + nq)).put hil S.x S.y)
        clear n0 n1 z0 z1 a0 a1 z2 z3 p0 p1 b0 y0
        generalize ((wr.drewN (nqa + nq)).setCell ⟨g2, σ t * 2, none⟩ (.int .i64 S.x)).setCell ⟨g2, σ t * 2 + 1, none⟩ (.int .i64 S.y) = w5 at *
        obtain ⟨b', o', e', _, p0, p1⟩ := pc_cells (prow_of (HV.out.same (Same.of_below HW5.out.below))) hil
        cases e'
        rw [← HEQ.out.1] at p0
        have b0 := HW5.out.box.cell (k := 0) rfl
        have n0 := HW5.out.nx.cell (k := 0) rfl
        have z0 := HW5.out.nx.free 0
        clear p1
        go_region
        go_wp2_with fail
        go_roundg (ps.length - (t + 1))
        case measure => omega
        case rel => exact ⟨t + 1, by omega, rfl, by go_num, by rw [HFIN.out.1], by rw [HFIN.out.2.1, HFIN.out.2.2]; exact ((HW5.out.one (S.x + pw)).drew).congr fun k _ => HRES.out k⟩
      · have hx0 : (S.x == 0) = false := by simp; omega
        have n3 : ¬ S.x + pw > W := by omega
        have n4 : ¬ S.x = 0 := by omega
        have HE : Hid (S.px W pw = S.x ∧ S.py W pw = S.y ∧ S.ht W pw ph = S.hi) := by
          show _ ∧ _ ∧ _
          unfold SS.ht SS.px SS.py
          rw [if_neg n3, if_neg n3, if_neg n4]; exact ⟨rfl, rfl, rfl⟩
        have HRES : Hid (∀ k, (if k = σ t then (⟨S.x, S.y⟩ : Pt) else qOf W ps σ τ t k) = qOf W ps σ τ (t + 1) k) := fun k => by
          have := HQ.out k
          rw [HPX.out.1, HPX.out.2, HE.out.1, HE.out.2.1] at this
          exact this
        have HFIN : Hid ((ss W (wOf ps) (hOf ps) σ (t + 1)).hi = S.hi ∧ (ss W (wOf ps) (hOf ps) σ (t + 1)).x = S.x + pw ∧ (ss W (wOf ps) (hOf ps) σ (t + 1)).y = S.y) := by
          show _ ∧ _ ∧ _
          rw [HNX.out]
          exact ⟨HE.out.2.2, by show S.px W pw + pw = _; rw [HE.out.1], HE.out.2.1⟩
        go_wp2_with (go_quiet (fail))
        have HW5 := Lib.hid ((HL.out.dN nq).put hil S.x S.y)
        clear n0 n1 z0 z1 a0 a1 z2 z3 p0 p1 b0 y0
        generalize ((wr.drewN nq).setCell ⟨g2, σ t * 2, none⟩ (.int .i64 S.x)).setCell ⟨g2, σ t * 2 + 1, none⟩ (.int .i64 S.y) = w5 at *
        obtain ⟨b', o', e', _, p0, p1⟩ := pc_cells (prow_of (HV.out.same (Same.of_below HW5.out.below))) hil
        cases e'
        rw [← HEQ.out.1] at p0
        have b0 := HW5.out.box.cell (k := 0) rfl
        have n0 := HW5.out.nx.cell (k := 0) rfl
        have z0 := HW5.out.nx.free 0
        clear p1
        go_region
        go_wp2_with fail
        go_roundg (ps.length - (t + 1))
        case measure => omega
        case rel => exact ⟨t + 1, by omega, rfl, by go_num, by rw [HFIN.out.1], by rw [HFIN.out.2.1, HFIN.out.2.2]; exact ((HW5.out.one (S.x + pw)).drew).congr fun k _ => HRES.out k⟩
end Go.Proofs.Ytckciljgaddpaaa
