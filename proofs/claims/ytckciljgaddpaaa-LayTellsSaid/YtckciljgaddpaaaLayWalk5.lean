/- Chapter 16: the reference's Lay. -/
import Derived.Test.YtckciljgaddpaaaLayWalk4
namespace Go.Proofs.Ytckciljgaddpaaa
open Go.RowKit
set_option linter.unusedVariables false

def bRow (d : Nat → Bool) (n : Nat) : List Value := (List.range n).map fun k => Value.bool (d k)
theorem bRow_get (d : Nat → Bool) {n k : Nat} (h : k < n) : (bRow d n)[k]? = some (.bool (d k)) := by simp [bRow, h]
theorem bRow_set (d : Nat → Bool) (n k : Nat) (x : Bool) : (bRow d n).set k (.bool x) = bRow (fun j => if j = k then x else d j) n := by
  unfold bRow
  apply List.ext_getElem
  · simp
  · intro j h1 h2
    simp only [List.length_set, List.length_map, List.length_range] at h1
    rw [List.getElem_set]
    by_cases h : k = j
    · subst h; simp
    · rw [if_neg h]; simp [Ne.symm h]
/-- the row of block g holds d, in n places -/
def BR (w : World) (base g cap n : Nat) (d : Nat → Bool) : Prop := w.ownsRow base 4 1 (.slice (some ⟨g, 0, none⟩) n cap) n (bRow d n)
section
variable {w w' : World} {base g cap n : Nat} {d : Nat → Bool}
theorem BR.cell (h : BR w base g cap n d) {k : Nat} (hk : k < n) : w.cell? ⟨g, k, none⟩ = some (.bool (d k)) := by
  rw [World.ownsRow.cellAt h k (by omega), bRow_get d hk]
theorem BR.free (h : BR w base g cap n d) (k : Nat) : w.frozen? ⟨g, k, none⟩ = false := World.ownsRow.frozenAt h k
theorem BR.lt (h : BR w base g cap n d) : g < w.heap.size := (World.ownsRow.lt h g rfl).2
theorem BR.set (h : BR w base g cap n d) {k : Nat} (hk : k < n) (x : Bool) : BR (w.setCell ⟨g, k, none⟩ (.bool x)) base g cap n (fun j => if j = k then x else d j) := by
  have := World.ownsRow.stored h k (.bool x)
  rw [bRow_set] at this
  exact this.1
theorem BR.congr {d' : Nat → Bool} (h : BR w base g cap n d) (e : ∀ k, k < n → d k = d' k) : BR w base g cap n d' := by
  have : bRow d n = bRow d' n := by
    unfold bRow
    refine List.map_congr_left fun k hk => ?_
    rw [e k (by simpa using hk)]
  unfold BR at *
  rwa [this] at h
theorem BR.block (h : BR w base g cap n d) (e : w'.heap[g]? = w.heap[g]?) : BR w' base g cap n d := by
  unfold BR World.ownsRow at *
  refine ⟨h.1, h.2.imp id ?_⟩
  rintro ⟨g', cap', cur, hv, hb, hg, rest⟩
  refine ⟨g', cap', cur, hv, hb, ?_, rest⟩
  cases hv
  rw [e]; exact hg
end
theorem BR.new (w : World) (n : Nat) (hn : n ≤ maxLen) : BR (w.alloc (.cells (madeCells #[.bool false] n) 4)) w.heap.size w.heap.size n n (fun _ => false) := by
  have h := World.ownsRow_lit (base := w.heap.size) (e := 4) (size := 1) w (madeCells #[.bool false] n) n (Nat.le_refl _) hn (by rw [size_madeCells, Nat.mul_one])
  have e : (madeCells #[.bool false] n).toList = bRow (fun _ => false) n := by
    apply List.ext_getElem?
    intro m
    by_cases hm : m < n
    · rw [bRow_get _ hm]; unfold madeCells; simp [hm, Nat.mod_one]
    · rw [List.getElem?_eq_none (by rw [Array.length_toList, size_madeCells]; omega), List.getElem?_eq_none (by simp [bRow]; omega)]
  rw [e] at h
  exact h

/-- what stands while the reference lays pieces -/
structure RL (w0 w : World) (g1 g2 n : Nat) (q : Nat → Pt) (d : Nat → Bool) : Prop where
  below : Below w0.heap.size w0 w
  at_ : PR w g1 g1 n n q
  dn : BR w g2 g2 n n d
  l0 : w0.heap.size ≤ g1
  l1 : g1 < g2
section
variable {w0 w : World} {g1 g2 n : Nat} {q : Nat → Pt} {d : Nat → Bool}
theorem RL.dN (s : RL w0 w g1 g2 n q d) (k : Nat) : RL w0 (w.drewN k) g1 g2 n q d := ⟨below_dN s.below, own_dN s.at_, own_dN s.dn, s.l0, s.l1⟩
theorem RL.al (s : RL w0 w g1 g2 n q d) (o : Obj) : RL w0 (w.alloc o) g1 g2 n q d := ⟨s.below.alloc s.below.size o, own_al s.at_ o, own_al s.dn o, s.l0, s.l1⟩
theorem RL.done (s : RL w0 w g1 g2 n q d) {i : Nat} (hi : i < n) (x : Bool) : RL w0 (w.setCell ⟨g2, i, none⟩ (.bool x)) g1 g2 n q (fun j => if j = i then x else d j) := by
  obtain ⟨a, b, c, l0, l1⟩ := s
  exact ⟨a.setCell (by show _ ≤ g2; omega) _, b.block (Below.heap_setCell _ _ _ _ (by show g1 ≠ g2; omega)), c.set hi x, l0, l1⟩
theorem RL.put (s : RL w0 w g1 g2 n q d) {i : Nat} (hi : i < n) (a b : Int) : RL w0 ((w.setCell ⟨g1, i * 2, none⟩ (.int .i64 a)).setCell ⟨g1, i * 2 + 1, none⟩ (.int .i64 b)) g1 g2 n (fun k => if k = i then ⟨a, b⟩ else q k) d := by
  obtain ⟨f, b', c, l0, l1⟩ := s
  exact ⟨(f.setCell (by show _ ≤ g1; omega) _).setCell (by show _ ≤ g1; omega) _, b'.set hi _ _, c.block ((Below.heap_setCell _ _ _ _ (by show g2 ≠ g1; omega)).trans (Below.heap_setCell _ _ _ _ (by show g2 ≠ g1; omega))), l0, l1⟩
theorem RL.congr {q' : Nat → Pt} {d' : Nat → Bool} (s : RL w0 w g1 g2 n q d) (e : ∀ k, k < n → q k = q' k) (e2 : ∀ k, k < n → d k = d' k) : RL w0 w g1 g2 n q' d' := ⟨s.below, s.at_.congr e, s.dn.congr e2, s.l0, s.l1⟩
end

theorem Ord.first {hg : Nat → Int} {n : Nat} {σ τ : Nat → Nat} (h : Ord hg n σ τ) {t j : Nat} (ht : t < n) (hj : j < n) (hd : ¬ τ j < t) : hg j < hg (σ t) ∨ hg j = hg (σ t) ∧ σ t ≤ j := by
  have e : σ (τ j) = j := h.st j
  have hle := h.le t (τ j) (by omega) (h.lt' hj)
  rw [e] at hle
  rcases Nat.lt_or_eq_of_le (show t ≤ τ j by omega) with c | c
  · by_cases he : hg j = hg (σ t)
    · have := h.sb t (τ j) c (h.lt' hj) (by rw [e]; exact he.symm)
      rw [e] at this
      exact .inr ⟨he, by omega⟩
    · exact .inl (by omega)
  · rw [c, e]; exact .inr ⟨rfl, Nat.le_refl _⟩
/-- the best of the first i -/
def Best (hg : Nat → Int) (τ : Nat → Nat) (t i : Nat) (b : Int) : Prop :=
  (b = -1 ∧ ∀ j, j < i → τ j < t) ∨ ∃ m : Nat, b = (m : Int) ∧ m < i ∧ ¬ τ m < t ∧ ∀ j, j < i → ¬ τ j < t → hg j < hg m ∨ hg j = hg m ∧ m ≤ j
section
variable {hg : Nat → Int} {σ τ : Nat → Nat} {t i : Nat} {b : Int}
theorem Best.done (h : Best hg τ t i b) (hd : τ i < t) : Best hg τ t (i + 1) b := by
  rcases h with ⟨h1, h2⟩ | ⟨m, h1, h2, h3, h4⟩
  · exact .inl ⟨h1, fun j hj => (Nat.lt_or_eq_of_le (Nat.le_of_lt_succ hj)).elim (h2 j) fun e => e ▸ hd⟩
  · exact .inr ⟨m, h1, by omega, h3, fun j hj hn => (Nat.lt_or_eq_of_le (Nat.le_of_lt_succ hj)).elim (fun c => h4 j c hn) fun e => absurd (e ▸ hd) hn⟩
theorem Best.take (h : Best hg τ t i b) (hd : ¬ τ i < t) (hb : b = -1 ∨ ∃ m : Nat, b = (m : Int) ∧ hg m < hg i) : Best hg τ t (i + 1) (i : Int) := by
  refine .inr ⟨i, rfl, by omega, hd, fun j hj hn => ?_⟩
  rcases Nat.lt_or_eq_of_le (Nat.le_of_lt_succ hj) with c | rfl
  · rcases h with ⟨h1, h2⟩ | ⟨m, h1, h2, h3, h4⟩
    · exact absurd (h2 j c) hn
    · rcases hb with hb | ⟨m', e, hlt⟩
      · omega
      · obtain rfl : m = m' := by omega
        have := h4 j c hn
        exact .inl (by omega)
  · exact .inr ⟨rfl, Nat.le_refl _⟩
theorem Best.keep {m : Nat} (h : Best hg τ t i (m : Int)) (hd : ¬ τ i < t) (hm : ¬ hg m < hg i) : Best hg τ t (i + 1) (m : Int) := by
  rcases h with ⟨h1, h2⟩ | ⟨m', h1, h2, h3, h4⟩
  · omega
  · obtain rfl : m = m' := by omega
    refine .inr ⟨m, rfl, by omega, h3, fun j hj hn => ?_⟩
    rcases Nat.lt_or_eq_of_le (Nat.le_of_lt_succ hj) with c | rfl
    · exact h4 j c hn
    · by_cases e : hg j = hg m
      · exact .inr ⟨e, by omega⟩
      · exact .inl (by omega)
theorem Best.end_ {n : Nat} (h : Best hg τ t n b) (ho : Ord hg n σ τ) (ht : t < n) : b = ((σ t : Nat) : Int) := by
  have hs := ho.lt ht
  have hnd : ¬ τ (σ t) < t := by rw [ho.ts]; omega
  rcases h with ⟨h1, h2⟩ | ⟨m, h1, h2, h3, h4⟩
  · exact absurd (h2 _ hs) hnd
  · have a := h4 _ hs hnd
    have c := ho.first ht h2 h3
    omega
end

theorem T42 : SliceT Try.prog 42 4 (.bool false) 1 1 := ⟨Try.underlying42, by kernel_rfl, rfl, by decide, by decide⟩

set_option maxRecDepth 100000 in
set_option maxHeartbeats 4000000 in
theorem refLay_ok {v : Value} {ps : List Pc} (W : Int) (w : World) (hv : Pieces w (fun b => b < w.heap.size) v ps) (hW1 : 1 ≤ W) (hW2 : W ≤ 1048576) (hn : ps.length ≤ 256) (hok : ∀ i (hi : i < ps.length), ¬ ps[i].bad W)
    {σ τ : Nat → Nat} (ho : Ord (hOf ps) ps.length σ τ) :
    Calls Try.prog 8 #[.int .i64 W, v] w fun e w' => ∃ u, e = .returned (.tuple #[u, .int .i64 (ss W (wOf ps) (hOf ps) σ ps.length).hi, .int .i64 0]) ∧
      Points w' (fun b => w.heap.size ≤ b ∧ b < w'.heap.size) u ((List.range ps.length).map (qOf W ps σ τ ps.length)) ∧ Below w.heap.size w w' := by
  have HV := Lib.hid hv
  have HOK := Lib.hid hok
  have HO := Lib.hid ho
  clear hok ho
  obtain ⟨A, c, rfl, h1, h2, hr⟩ := hv
  clear hr
  unfold maxLen at h2
  have mk1 := fun w => run_mk T42 ps.length ps.length (Nat.le_refl _) (by omega) w
  have mk2 := fun w => run_mk T24 ps.length ps.length (Nat.le_refl _) (by omega) w
  go_enter Try.func8, Try.ntmps8
  go_wp2_with fail
  refine (Wrong_ok W _ HV.out hW1 hW2 hn HOK.out).mono ?_
  rintro e w1 ⟨rfl, hb1⟩
  have HB1 := Lib.hid hb1
  clear hb1
  go_wp2_with fail
  have HRL : Hid (RL w ((w1.alloc (.cells (madeCells #[.int .i64 0, .int .i64 0] (ps.length * 2)) 36)).alloc (.cells (madeCells #[.bool false] ps.length) 4)) w1.heap.size (w1.heap.size + 1) ps.length (qOf W ps σ τ 0) (fun k => decide (τ k < 0))) := by
    have hd := BR.new (w1.alloc (.cells (madeCells #[.int .i64 0, .int .i64 0] (ps.length * 2)) 36)) ps.length (by unfold maxLen; omega)
    rw [World.size_alloc] at hd
    exact ⟨(HB1.out.alloc HB1.out.size _).alloc (by have := HB1.out.size; simp; omega) _, (PR.congr (own_al (PR.new w1 ps.length (by unfold maxLen; omega)) _) fun k _ => by unfold qOf; rw [if_neg (by omega)]), hd.congr fun k _ => by simp, HB1.out.size, Nat.lt_succ_self _⟩
  have HPC : Hid (Pcs W (wOf ps) (hOf ps) ps.length ∧ ∀ i, i < ps.length → hOf ps i ≤ 1048576) := by
    have key : ∀ i (hi : i < ps.length), 1 ≤ wOf ps i ∧ wOf ps i ≤ W ∧ 1 ≤ hOf ps i ∧ hOf ps i ≤ 1048576 := fun i hi => by
      have := HOK.out i hi
      unfold Pc.bad at this
      unfold wOf hOf
      rw [pc_getD hi]
      omega
    exact ⟨⟨fun i hi => (key i hi).1, fun i hi => (key i hi).2.1, fun i hi => (key i hi).2.2.1⟩, fun i hi => (key i hi).2.2.2⟩
  obtain ⟨g1, hg1⟩ : ∃ g1, g1 = w1.heap.size := ⟨_, rfl⟩
  rw [← hg1] at HRL ⊢
  clear hg1 HB1
  go_loopg [10, 11, 12, 30] ps.length (fun gg sx sy sh ctr wr => ∃ t : Nat, t ≤ ps.length ∧ gg = ps.length - t ∧ ctr = .int .i64 t ∧ sx = .int .i64 (ss W (wOf ps) (hOf ps) σ t).x ∧ sy = .int .i64 (ss W (wOf ps) (hOf ps) σ t).y ∧
    sh = .int .i64 ((ss W (wOf ps) (hOf ps) σ t).hi - (ss W (wOf ps) (hOf ps) σ t).y) ∧ RL w wr g1 (g1 + 1) ps.length (qOf W ps σ τ t) (fun k => decide (τ k < t)))
  case atStart => exact ⟨0, by omega, rfl, rfl, rfl, rfl, rfl, HRL.out⟩
  case round =>
    clear HRL
    obtain ⟨t, ht, rfl, rfl, rfl, rfl, rfl, hrl⟩ := hrel
    have HL := Lib.hid hrl
    clear hrl
    have sh := sh_all HPC.out.1 HO.out hW1 t (by omega)
    have s1 := sh.x0
    have s2 := sh.x1
    have s3 := sh.y0
    have s4 := sh.yh
    have s5 := hi_le HPC.out.1 HO.out hW1 HPC.out.2 t (by omega)
    have HSZ : Hid ((ss W (wOf ps) (hOf ps) σ t).x = 0 → (ss W (wOf ps) (hOf ps) σ t).hi = 0 ∧ (ss W (wOf ps) (hOf ps) σ t).y = 0) := fun e => by
      have := sh.z e
      subst this
      exact ⟨rfl, rfl⟩
    have HSH : Hid ((ss W (wOf ps) (hOf ps) σ t).x ≠ 0 → 1 ≤ (ss W (wOf ps) (hOf ps) σ t).hi - (ss W (wOf ps) (hOf ps) σ t).y) := fun e => by
      have h0 : 0 < t := by
        rcases Nat.eq_zero_or_pos t with h | h
        · subst h; exact absurd rfl e
        · exact h
      have h1 := sh.last h0
      have h2 := HPC.out.1.h0 _ (HO.out.lt (show t - 1 < ps.length by omega))
      omega
    by_cases hlt : t < ps.length
    case neg =>
      obtain rfl : t = ps.length := by omega
      have e5 : (ss W (wOf ps) (hOf ps) σ ps.length).y + ((ss W (wOf ps) (hOf ps) σ ps.length).hi - (ss W (wOf ps) (hOf ps) σ ps.length).y) = (ss W (wOf ps) (hOf ps) σ ps.length).hi := by omega
      have HE5 := Lib.hid e5
      clear e5 sh
      go_wp2_with fail
      go_ret3
      exact ⟨_, by first | rfl | (rw [HE5.out]; rfl), HL.out.at_.els.mono fun i h => ⟨by have := HL.out.l0; omega, h.2⟩, HL.out.below⟩
    clear sh
    go_wp2_with fail
    go_loopg [13, 34] ps.length (fun gg bst ctr w2 => ∃ (i : Nat) (b : Int), i ≤ ps.length ∧ gg = ps.length - i ∧ ctr = .int .i64 i ∧ bst = .int .i64 b ∧ Best (hOf ps) τ t i b ∧ RL w w2 g1 (g1 + 1) ps.length (qOf W ps σ τ t) (fun k => decide (τ k < t)))
    case atStart => exact ⟨0, -1, by omega, rfl, rfl, rfl, .inl ⟨rfl, fun j h => by omega⟩, HL.out⟩
    case round =>
      clear HL
      obtain ⟨i, b, hi, rfl, rfl, rfl, hbest, hrl⟩ := hrel
      have HL := Lib.hid hrl
      have HBS := Lib.hid hbest
      clear hrl hbest
      by_cases hil : i < ps.length
      case pos =>
        obtain ⟨bk, o, e, hbk, p0, p1⟩ := pc_cells (prow_of (HV.out.same (Same.of_below HL.out.below))) hil
        cases e
        have d0 := HL.out.dn.cell hil
        have HEI : Hid (hOf ps i = ps[i].h) := by show _ = _; unfold hOf; rw [pc_getD hil]
        have HAL := Lib.hid (HL.out.al (.cells #[.int .i64 ps[i].w, .int .i64 ps[i].h] 29))
        have hbw : bk < wr.heap.size := Nat.lt_of_lt_of_le hbk HL.out.below.size
        have hgw : g1 + 1 < wr.heap.size := HL.out.dn.lt
        by_cases hd : τ i < t
        · have HN := Lib.hid (HBS.out.done hd)
          rw [decide_eq_true hd] at d0
          clear hd
          generalize ps[i] = p at *
          go_wp2_with (go_quiet (fail))
          go_roundg (ps.length - (i + 1))
          case measure => omega
          case rel => exact ⟨i + 1, b, by omega, rfl, by go_num, rfl, HN.out, HAL.out.dN _⟩
        rw [decide_eq_false hd] at d0
        have HND := Lib.hid hd
        clear hd
        have hcs : b = -1 ∨ ∃ m : Nat, b = (m : Int) ∧ m < i := by
          rcases HBS.out with ⟨h1, _⟩ | ⟨m, h1, h2, _⟩
          · exact .inl h1
          · exact .inr ⟨m, h1, h2⟩
        rcases hcs with rfl | ⟨m, rfl, hmi⟩
        · have HN := Lib.hid (HBS.out.take HND.out (.inl rfl))
          generalize ps[i] = p at *
          go_wp2_with (go_quiet (fail))
          go_roundg (ps.length - (i + 1))
          case measure => omega
          case rel => exact ⟨i + 1, i, by omega, rfl, by go_num, rfl, HN.out, HAL.out.dN _⟩
        have hml : m < ps.length := by omega
        obtain ⟨bk', o', e, _, _, p2⟩ := pc_cells (prow_of (HV.out.same (Same.of_below HL.out.below))) hml
        cases e
        have HEM : Hid (hOf ps m = ps[m].h) := by show _ = _; unfold hOf; rw [pc_getD hml]
        by_cases hh : ps[m].h < ps[i].h
        · have HN := Lib.hid (HBS.out.take HND.out (.inr ⟨m, rfl, by rw [HEI.out, HEM.out]; exact hh⟩))
          generalize ps[i] = p at *
          generalize ps[m] = q at *
          go_wp2_with (go_quiet (fail))
          go_roundg (ps.length - (i + 1))
          case measure => omega
          case rel => exact ⟨i + 1, i, by omega, rfl, by go_num, rfl, HN.out, HAL.out.dN _⟩
        · have HN := Lib.hid (HBS.out.keep HND.out (by rw [HEI.out, HEM.out]; exact hh))
          generalize ps[i] = p at *
          generalize ps[m] = q at *
          go_wp2_with (go_quiet (fail))
          go_roundg (ps.length - (i + 1))
          case measure => omega
          case rel => exact ⟨i + 1, m, by omega, rfl, by go_num, rfl, HN.out, HAL.out.dN _⟩
      obtain rfl : i = ps.length := by omega
      obtain rfl : b = ((σ t : Nat) : Int) := HBS.out.end_ HO.out hlt
      clear hi hil HBS
      have hil := HO.out.lt hlt
      obtain ⟨bk, o, e, hbk, p0, p1⟩ := pc_cells (prow_of (HV.out.same (Same.of_below HL.out.below))) hil
      cases e
      have HEQ : Hid (wOf ps (σ t) = ps[σ t].w ∧ hOf ps (σ t) = ps[σ t].h) := by
        show _ ∧ _
        unfold wOf hOf
        rw [pc_getD hil]
        exact ⟨rfl, rfl⟩
      rw [← HEQ.out.1] at p0
      rw [← HEQ.out.2] at p1
      have hbg : bk < g1 := Nat.lt_of_lt_of_le hbk HL.out.l0
      have d0 := HL.out.dn.cell hil
      have z0 := HL.out.dn.free (σ t)
      have a0 := HL.out.at_.cellX hil
      have a1 := HL.out.at_.cellY hil
      have z2 := HL.out.at_.free (σ t * 2)
      have z3 := HL.out.at_.free (σ t * 2 + 1)
      have e0 := HPC.out.1.w0 _ hil
      have e1 := HPC.out.1.w1 _ hil
      have e2 := HPC.out.1.h0 _ hil
      have e3 := HPC.out.2 _ hil
      have HNX : Hid (ss W (wOf ps) (hOf ps) σ (t + 1) = (ss W (wOf ps) (hOf ps) σ t).next W (wOf ps (σ t)) (hOf ps (σ t))) := rfl
      have HQ := Lib.hid (qOf_next (W := W) HO.out t)
      have HPX : Hid (pX W (wOf ps) (hOf ps) σ t = (ss W (wOf ps) (hOf ps) σ t).px W (wOf ps (σ t)) ∧ pY W (wOf ps) (hOf ps) σ t = (ss W (wOf ps) (hOf ps) σ t).py W (wOf ps (σ t))) := ⟨rfl, rfl⟩
      have HDN : Hid (∀ k, k < ps.length → (if k = σ t then true else decide (τ k < t)) = decide (τ k < t + 1)) := fun k hk => by
        by_cases h : k = σ t
        · subst h; rw [if_pos rfl, HO.out.ts]; simp
        · rw [if_neg h]
          have : τ k ≠ t := fun e => h (by rw [← e, HO.out.st])
          by_cases h2 : τ k < t
          · rw [decide_eq_true h2, decide_eq_true (by omega)]
          · rw [decide_eq_false h2, decide_eq_false (by omega)]
      generalize hq : qOf W ps σ τ t (σ t) = qq at *
      have HQQ := Lib.hid hq
      clear hq
      have HLT := Lib.hid hil
      generalize wOf ps (σ t) = pw at *
      generalize hOf ps (σ t) = ph at *
      generalize ss W (wOf ps) (hOf ps) σ t = S at *
      have hcs : (S.x + pw > W) ∨ (S.x + pw ≤ W ∧ S.hi - S.y = 0 ∧ S.x = 0) ∨ (S.x + pw ≤ W ∧ 0 < S.hi - S.y ∧ 0 < S.x) := by
        by_cases c : S.x + pw > W
        · exact .inl c
        · by_cases hx : S.x = 0
          · have := HSZ.out hx; exact .inr (.inl ⟨by omega, by omega, hx⟩)
          · have := HSH.out hx; exact .inr (.inr ⟨by omega, by omega, by omega⟩)
      rcases hcs with c1 | ⟨c1, c2, c3⟩ | ⟨c1, c2, c3⟩
      · have e5 : Hid (S.y + (S.hi - S.y) = S.hi) := by show _ = _; omega
        have HE : Hid (S.px W pw = 0 ∧ S.py W pw = S.hi ∧ S.ht W pw ph = S.hi + ph) := by
          show _ ∧ _ ∧ _
          unfold SS.ht SS.px SS.py
          rw [if_pos c1, if_pos c1, if_pos rfl]; exact ⟨rfl, rfl, rfl⟩
        have HRES : Hid (∀ k, (if k = σ t then (⟨0, S.hi⟩ : Pt) else qOf W ps σ τ t k) = qOf W ps σ τ (t + 1) k) := fun k => by
          have := HQ.out k
          rw [HPX.out.1, HPX.out.2, HE.out.1, HE.out.2.1] at this
          exact this
        have HFIN : Hid ((ss W (wOf ps) (hOf ps) σ (t + 1)).hi = S.hi + ph ∧ (ss W (wOf ps) (hOf ps) σ (t + 1)).x = 0 + pw ∧ (ss W (wOf ps) (hOf ps) σ (t + 1)).y = S.hi) := by
          show _ ∧ _ ∧ _
          rw [HNX.out]
          exact ⟨HE.out.2.2, by show S.px W pw + pw = _; rw [HE.out.1], HE.out.2.1⟩
        go_upto_region 17 with fail
        have HW5 := Lib.hid (HL.out.done HLT.out true)
        clear p0 p1 a0 a1 z0 z2 z3 d0
        generalize wr.setCell ⟨g1 + 1, σ t, none⟩ (.bool true) = w5 at *
        obtain ⟨b', o', e', _, p0, p1⟩ := pc_cells (prow_of (HV.out.same (Same.of_below HW5.out.below))) HLT.out
        cases e'
        rw [← HEQ.out.1] at p0
        rw [← HEQ.out.2] at p1
        have a0 := HW5.out.at_.cellX HLT.out
        have a1 := HW5.out.at_.cellY HLT.out
        rw [HQQ.out] at a0 a1
        have z2 := HW5.out.at_.free (σ t * 2)
        have z3 := HW5.out.at_.free (σ t * 2 + 1)
        go_upto_region 22 with fail
        have HW6 := Lib.hid (HW5.out.put HLT.out 0 (S.y + (S.hi - S.y)))
        clear p0 p1 a0 a1 z2 z3
        generalize (w5.setCell ⟨g1, σ t * 2, none⟩ (.int .i64 0)).setCell ⟨g1, σ t * 2 + 1, none⟩ (.int .i64 (S.y + (S.hi - S.y))) = w6 at *
        obtain ⟨b', o', e', _, p0, p1⟩ := pc_cells (prow_of (HV.out.same (Same.of_below HW6.out.below))) HLT.out
        cases e'
        rw [← HEQ.out.1] at p0
        clear p1
        go_wp2_with fail
        go_roundg (ps.length - (t + 1))
        case measure => omega
        case rel => exact ⟨t + 1, by omega, rfl, by go_num, by first | rw [HFIN.out.2.1, Int.zero_add] | rw [HFIN.out.2.1], by rw [HFIN.out.2.2, e5.out], by rw [HFIN.out.1, HFIN.out.2.2]; congr 1; omega, HW6.out.congr (fun k _ => by rw [e5.out]; exact HRES.out k) HDN.out⟩
      · have hx0 : (S.hi - S.y == 0) = true := by simpa using c2
        have n3 : ¬ S.x + pw > W := by omega
        have HC2 : Hid (S.hi - S.y = 0 ∧ S.x = 0) := ⟨c2, c3⟩
        clear c2 c3
        have HE : Hid (S.px W pw = S.x ∧ S.py W pw = S.y ∧ S.ht W pw ph = S.y + ph) := by
          show _ ∧ _ ∧ _
          unfold SS.ht SS.px SS.py
          rw [if_neg n3, if_neg n3, if_pos HC2.out.2]; exact ⟨rfl, rfl, rfl⟩
        have HRES : Hid (∀ k, (if k = σ t then (⟨S.x, S.y⟩ : Pt) else qOf W ps σ τ t k) = qOf W ps σ τ (t + 1) k) := fun k => by
          have := HQ.out k
          rw [HPX.out.1, HPX.out.2, HE.out.1, HE.out.2.1] at this
          exact this
        have HFIN : Hid ((ss W (wOf ps) (hOf ps) σ (t + 1)).hi = S.y + ph ∧ (ss W (wOf ps) (hOf ps) σ (t + 1)).x = S.x + pw ∧ (ss W (wOf ps) (hOf ps) σ (t + 1)).y = S.y) := by
          show _ ∧ _ ∧ _
          rw [HNX.out]
          exact ⟨HE.out.2.2, by show S.px W pw + pw = _; rw [HE.out.1], HE.out.2.1⟩
        go_upto_region 17 with fail
        have HW5 := Lib.hid (HL.out.done HLT.out true)
        clear p0 p1 a0 a1 z0 z2 z3 d0
        generalize wr.setCell ⟨g1 + 1, σ t, none⟩ (.bool true) = w5 at *
        obtain ⟨b', o', e', _, p0, p1⟩ := pc_cells (prow_of (HV.out.same (Same.of_below HW5.out.below))) HLT.out
        cases e'
        rw [← HEQ.out.1] at p0
        rw [← HEQ.out.2] at p1
        have a0 := HW5.out.at_.cellX HLT.out
        have a1 := HW5.out.at_.cellY HLT.out
        rw [HQQ.out] at a0 a1
        have z2 := HW5.out.at_.free (σ t * 2)
        have z3 := HW5.out.at_.free (σ t * 2 + 1)
        go_upto_region 22 with fail
        have HW6 := Lib.hid (HW5.out.put HLT.out S.x S.y)
        clear p0 p1 a0 a1 z2 z3
        generalize (w5.setCell ⟨g1, σ t * 2, none⟩ (.int .i64 S.x)).setCell ⟨g1, σ t * 2 + 1, none⟩ (.int .i64 S.y) = w6 at *
        obtain ⟨b', o', e', _, p0, p1⟩ := pc_cells (prow_of (HV.out.same (Same.of_below HW6.out.below))) HLT.out
        cases e'
        rw [← HEQ.out.1] at p0
        clear p1
        go_wp2_with fail
        go_roundg (ps.length - (t + 1))
        case measure => omega
        case rel => exact ⟨t + 1, by omega, rfl, by go_num, by rw [HFIN.out.2.1], by rw [HFIN.out.2.2], by rw [HFIN.out.1, HFIN.out.2.2]; congr 1; omega, HW6.out.congr (fun k _ => HRES.out k) HDN.out⟩
      · have hx0 : (S.hi - S.y == 0) = false := by simp; omega
        have n3 : ¬ S.x + pw > W := by omega
        have n4 : ¬ S.x = 0 := by omega
        have HE : Hid (S.px W pw = S.x ∧ S.py W pw = S.y ∧ S.ht W pw ph = S.hi) := by
          show _ ∧ _ ∧ _
          unfold SS.ht SS.px SS.py
          rw [if_neg n3, if_neg n3, if_neg n4]; exact ⟨rfl, rfl, rfl⟩
        have HRES : Hid (∀ k, (if k = σ t then (⟨S.x, S.y⟩ : Pt) else qOf W ps σ τ t k) = qOf W ps σ τ (t + 1) k) := fun k => by
          have := HQ.out k
          rw [HPX.out.1, HPX.out.2, HE.out.1, HE.out.2.1] at this
          exact this
        have HFIN : Hid ((ss W (wOf ps) (hOf ps) σ (t + 1)).hi = S.hi ∧ (ss W (wOf ps) (hOf ps) σ (t + 1)).x = S.x + pw ∧ (ss W (wOf ps) (hOf ps) σ (t + 1)).y = S.y) := by
          show _ ∧ _ ∧ _
          rw [HNX.out]
          exact ⟨HE.out.2.2, by show S.px W pw + pw = _; rw [HE.out.1], HE.out.2.1⟩
        go_upto_region 17 with fail
        have HW5 := Lib.hid (HL.out.done HLT.out true)
        clear p0 p1 a0 a1 z0 z2 z3 d0
        generalize wr.setCell ⟨g1 + 1, σ t, none⟩ (.bool true) = w5 at *
        obtain ⟨b', o', e', _, p0, p1⟩ := pc_cells (prow_of (HV.out.same (Same.of_below HW5.out.below))) HLT.out
        cases e'
        rw [← HEQ.out.1] at p0
        rw [← HEQ.out.2] at p1
        have a0 := HW5.out.at_.cellX HLT.out
        have a1 := HW5.out.at_.cellY HLT.out
        rw [HQQ.out] at a0 a1
        have z2 := HW5.out.at_.free (σ t * 2)
        have z3 := HW5.out.at_.free (σ t * 2 + 1)
        go_upto_region 22 with fail
        have HW6 := Lib.hid (HW5.out.put HLT.out S.x S.y)
        clear p0 p1 a0 a1 z2 z3
        generalize (w5.setCell ⟨g1, σ t * 2, none⟩ (.int .i64 S.x)).setCell ⟨g1, σ t * 2 + 1, none⟩ (.int .i64 S.y) = w6 at *
        obtain ⟨b', o', e', _, p0, p1⟩ := pc_cells (prow_of (HV.out.same (Same.of_below HW6.out.below))) HLT.out
        cases e'
        rw [← HEQ.out.1] at p0
        clear p1
        go_wp2_with fail
        go_roundg (ps.length - (t + 1))
        case measure => omega
        case rel => exact ⟨t + 1, by omega, rfl, by go_num, by rw [HFIN.out.2.1], by rw [HFIN.out.2.2], by rw [HFIN.out.1, HFIN.out.2.2], HW6.out.congr (fun k _ => HRES.out k) HDN.out⟩
end Go.Proofs.Ytckciljgaddpaaa
