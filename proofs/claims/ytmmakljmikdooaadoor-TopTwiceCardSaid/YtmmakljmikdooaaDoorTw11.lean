/- Texts of the seat, put together: TruthWalk2, KindWalk1. -/
import Derived.Test.YtmmakljmikdooaaDoorTw10
import Derived.Test.YtmmakljmikdooaaDoorTw2
/- Chapter 5: slices.Equal, Index, IndexFunc at rows of truths. -/
namespace Go.Proofs.YtmmakljmikdooaaDoor
open Go.RowKit
set_option linter.unusedVariables false
set_option linter.unusedSimpArgs false

theorem cell_dN (w : World) (n : Nat) (a : Addr) : (w.drewN n).cell? a = w.cell? a := rfl
theorem eq_of_take {xs ys : List Bool} (hl : xs.length = ys.length) (h : ∀ k (h1 : k < xs.length) (h2 : k < ys.length), xs[k] = ys[k]) : xs = ys := List.ext_getElem hl h
set_option maxRecDepth 100000 in
theorem Equal_any {S T : Nat → Prop} {xs ys : List Bool} (u v : Value) (w : World) (hx : Bls w S u xs) (hy : Bls w T v ys) :
    Calls Tryd.prog 60 #[u, v] w fun e w' => e = .returned (.bool (decide (xs = ys))) ∧ ∃ k, w' = w.drewN k := by
  obtain ⟨A, c, rfl, h1, h2, hrx⟩ := hx
  obtain ⟨B, d, rfl, h3, h4, hry⟩ := hy
  unfold maxLen at h2 h4
  have HX := Lib.hid hrx
  have HY := Lib.hid hry
  obtain ⟨r, hr⟩ : ∃ r, decide (xs = ys) = r := ⟨_, rfl⟩
  rw [hr]
  have HRR := Lib.hid hr
  clear hrx hry hr
  by_cases hl : xs.length = ys.length
  · have HL := Lib.hid hl
    have g0 : ((xs.length : Int) != (ys.length : Int)) = false := by simp; omega
    have g0' : (xs.length != ys.length) = false := by simp; omega
    have HQ : Hid ((∀ k (h1 : k < xs.length) (h2 : k < ys.length), xs[k] = ys[k]) → r = true) := fun h => by rw [← HRR.out, decide_eq_true_iff]; exact eq_of_take HL.out h
    have HN : Hid (∀ k (h1 : k < xs.length) (h2 : k < ys.length), xs[k] ≠ ys[k] → r = false) := fun k h1 h2 h => by
      rw [← HRR.out]
      exact decide_eq_false fun e => h (by subst e; rfl)
    have hle : xs.length ≤ ys.length := by omega
    clear hl
    go_enter Tryd.func60, Tryd.ntmps60
    go_wp2_with fail
    go_loopg [13] xs.length (fun gg ctr wr => ∃ i : Nat, i ≤ xs.length ∧ gg = xs.length - i ∧ ctr = .int .i64 i ∧ (∃ k, wr = w.drewN k) ∧ ∀ k, k < i → ∀ (h1 : k < xs.length) (h2 : k < ys.length), xs[k] = ys[k])
    case atStart => exact ⟨0, by omega, rfl, rfl, ⟨0, rfl⟩, fun k hk => by omega⟩
    case round =>
      obtain ⟨i, hi, rfl, rfl, ⟨q, rfl⟩, hall⟩ := hrel
      have HALL := Lib.hid hall
      clear hall
      by_cases hlt : i < xs.length
      · obtain ⟨b1, o1, e1, _, c1⟩ := bls_cell HX.out hlt
        obtain ⟨b2, o2, e2, _, c2⟩ := bls_cell HY.out (show i < ys.length by omega)
        subst e1
        subst e2
        have hy' : i < ys.length := by omega
        have HI1 := Lib.hid (HN.out i hlt hy')
        have HI2 : Hid (xs[i] = ys[i] → ∀ k, k < i + 1 → ∀ (h1 : k < xs.length) (h2 : k < ys.length), xs[k] = ys[k]) := fun e k hk h1 h2 => by
          rcases Nat.lt_or_eq_of_le (Nat.le_of_lt_succ hk) with h | h
          · exact HALL.out k h h1 h2
          · subst h; exact e
        generalize xs[i] = xa at *
        generalize ys[i] = ya at *
        have hii : (i : Int) < (ys.length : Int) := by omega
        by_cases he : xa = ya
        · have g1 : (xa == ya) = true := by simpa using he
          have HN2 := Lib.hid (HI2.out he)
          clear he
          go_wp2_with (go_quiet (fail))
          go_roundg (xs.length - (i + 1))
          case measure => omega
          case rel => exact ⟨i + 1, by omega, rfl, by go_num, ⟨_, rfl⟩, HN2.out⟩
        · have g1 : (xa == ya) = false := by simpa using he
          have HE := Lib.hid (HI1.out he)
          clear he
          go_wp2_with (go_quiet (fail))
          go_ret
          exact ⟨by rw [HE.out]; rfl, _, World.drewN_drewN _ _ _⟩
      · obtain rfl : i = xs.length := by omega
        have HE := Lib.hid (HQ.out fun k h1 h2 => HALL.out k h1 h1 h2)
        go_wp2_with fail
        go_ret
        exact ⟨by rw [HE.out]; rfl, _, rfl⟩
  · have HE : Hid (r = false) := by
      show _ = _
      rw [← HRR.out]
      exact decide_eq_false fun e => hl (by rw [e])
    have g0 : ((xs.length : Int) != (ys.length : Int)) = true := by simp; omega
    have g0' : (xs.length != ys.length) = true := by simp; omega
    clear hl
    go_enter Tryd.func60, Tryd.ntmps60
    go_wp2_with fail
    go_ret
    exact ⟨by rw [HE.out]; rfl, 0, rfl⟩
/-- the first place of v in a row, or -1 -/
def indexF (xs : List Bool) (v : Bool) : Int := match xs.findIdx? (· == v) with
  | some i => (i : Int)
  | none => -1
theorem indexF_none {xs : List Bool} {v : Bool} (h : ∀ k (h1 : k < xs.length), xs[k] ≠ v) : indexF xs v = -1 := by
  unfold indexF
  have : xs.findIdx? (· == v) = none := by
    rw [List.findIdx?_eq_none_iff]
    intro x hx
    obtain ⟨k, hk, rfl⟩ := List.getElem_of_mem hx
    simpa using h k hk
  rw [this]
theorem indexF_some {xs : List Bool} {v : Bool} {i : Nat} (hi : i < xs.length) (h : ∀ k (h1 : k < xs.length), k < i → xs[k] ≠ v) (he : xs[i] = v) : indexF xs v = i := by
  unfold indexF
  have : xs.findIdx? (· == v) = some i := by
    rw [List.findIdx?_eq_some_iff_getElem]
    exact ⟨hi, by simpa using he, fun k hk => by simpa using h k (by omega) hk⟩
  rw [this]
set_option maxRecDepth 100000 in
theorem Index_any {S : Nat → Prop} {xs : List Bool} (u : Value) (v : Bool) (w : World) (hx : Bls w S u xs) :
    Calls Tryd.prog 78 #[u, .bool v] w fun e w' => e = .returned (.int .i64 (indexF xs v)) ∧ ∃ k, w' = w.drewN k := by
  obtain ⟨A, c, rfl, h1, h2, hrx⟩ := hx
  unfold maxLen at h2
  have HX := Lib.hid hrx
  obtain ⟨r, hr⟩ : ∃ r, indexF xs v = r := ⟨_, rfl⟩
  rw [hr]
  have HRR := Lib.hid hr
  clear hrx hr
  go_enter Tryd.func78, Tryd.ntmps78
  go_wp2_with fail
  go_loopg [8] xs.length (fun gg ctr wr => ∃ i : Nat, i ≤ xs.length ∧ gg = xs.length - i ∧ ctr = .int .i64 i ∧ (∃ k, wr = w.drewN k) ∧ ∀ k (h1 : k < xs.length), k < i → xs[k] ≠ v)
  case atStart => exact ⟨0, by omega, rfl, rfl, ⟨0, rfl⟩, fun k _ hk => by omega⟩
  case round =>
    obtain ⟨i, hi, rfl, rfl, ⟨q, rfl⟩, hall⟩ := hrel
    have HALL := Lib.hid hall
    clear hall
    by_cases hlt : i < xs.length
    · obtain ⟨b1, o1, e1, _, c1⟩ := bls_cell HX.out hlt
      subst e1
      have HI1 : Hid (xs[i] = v → r = (i : Int)) := fun e => by rw [← HRR.out]; exact indexF_some hlt HALL.out e
      have HI2 : Hid (xs[i] ≠ v → ∀ k (h1 : k < xs.length), k < i + 1 → xs[k] ≠ v) := fun e k h1 hk => by
        rcases Nat.lt_or_eq_of_le (Nat.le_of_lt_succ hk) with h | h
        · exact HALL.out k h1 h
        · subst h; exact e
      generalize xs[i] = xa at *
      have c1' : (w.drewN q).cell? ⟨b1, o1 + i, none⟩ = some (.bool xa) := c1
      by_cases he : xa = v
      · have g1 : (v == xa) = true := by simpa using he.symm
        have HE := Lib.hid (HI1.out he)
        clear he
        go_wp2_with fail
        go_ret
        exact ⟨by rw [HE.out]; rfl, _, rfl⟩
      · have g1 : (v == xa) = false := by simpa using fun h => he h.symm
        have HN2 := Lib.hid (HI2.out he)
        clear he
        go_wp2_with fail
        go_roundg (xs.length - (i + 1))
        case measure => omega
        case rel => exact ⟨i + 1, by omega, rfl, by go_num, ⟨_, rfl⟩, HN2.out⟩
    · obtain rfl : i = xs.length := by omega
      have HE : Hid (r = -1) := by show _ = _; rw [← HRR.out]; exact indexF_none fun k h1 => HALL.out k h1 h1
      go_wp2_with fail
      go_ret
      exact ⟨by rw [HE.out]; rfl, _, rfl⟩
/-- the first row that is v, or -1 -/
def indexR (ks : List (List Bool)) (v : List Bool) : Int := match ks.findIdx? (· == v) with
  | some i => (i : Int)
  | none => -1
theorem indexR_none {xs : List (List Bool)} {v : List Bool} (h : ∀ k (h1 : k < xs.length), xs[k] ≠ v) : indexR xs v = -1 := by
  unfold indexR
  have : xs.findIdx? (· == v) = none := by
    rw [List.findIdx?_eq_none_iff]
    intro x hx
    obtain ⟨k, hk, rfl⟩ := List.getElem_of_mem hx
    simpa using h k hk
  rw [this]
theorem indexR_some {xs : List (List Bool)} {v : List Bool} {i : Nat} (hi : i < xs.length) (h : ∀ k (h1 : k < xs.length), k < i → xs[k] ≠ v) (he : xs[i] = v) : indexR xs v = i := by
  unfold indexR
  have : xs.findIdx? (· == v) = some i := by
    rw [List.findIdx?_eq_some_iff_getElem]
    exact ⟨hi, by simpa using he, fun k hk => by simpa using h k (by omega) hk⟩
  rw [this]
theorem Alike1_any {S T : Nat → Prop} {xs ys : List Bool} (u v : Value) (pb : Nat) (w : World) (hx : Bls w S u xs) (hy : Bls w T v ys) (hp : w.cell? ⟨pb, 0, none⟩ = some v) :
    Calls Tryd.prog 76 #[u, .pointer (some ⟨pb, 0, none⟩)] w fun e w' => e = .returned (.bool (decide (xs = ys))) ∧ ∃ k, w' = w.drewN k := by
  have HE := fun u v w hx hy => Equal_any (S := S) (T := T) (xs := xs) (ys := ys) u v w hx hy
  have HXX := Lib.hid hx
  have HYY := Lib.hid hy
  have HEE := Lib.hid HE
  obtain ⟨A, c, rfl, _, _, _⟩ := hx
  obtain ⟨B, d, rfl, _, _, _⟩ := hy
  clear HE
  go_enter Tryd.func76, Tryd.ntmps76
  go_wp2_with fail
  refine (HEE.out _ _ w HXX.out HYY.out).mono ?_
  rintro e w' ⟨rfl, k, rfl⟩
  go_wp2_with fail
  go_ret
  exact ⟨rfl, k, rfl⟩
set_option maxRecDepth 100000 in
theorem IndexFunc_any {S T U : Nat → Prop} {ks : List (List Bool)} {vs : List Value} {ys : List Bool} (A : Option Addr) (c pb : Nat) (v : Value) (w : World) (hr : Row w S 1 A ks.length vs) (hc : ks.length ≤ c) (hc2 : c ≤ maxLen)
    (hk : ∀ i (h : i < ks.length) (u : Value), vs[i]? = some u → Bls w U u ks[i]) (hy : Bls w T v ys) (hp : w.cell? ⟨pb, 0, none⟩ = some v) :
    Calls Tryd.prog 75 #[.slice A ks.length c, .func (.func 76) #[] #[.pointer (some ⟨pb, 0, none⟩)]] w fun e w' => e = .returned (.int .i64 (indexR ks ys)) ∧ ∃ k, w' = w.drewN k := by
  unfold maxLen at hc2
  have HR := Lib.hid hr
  have HK := Lib.hid hk
  have HY := Lib.hid hy
  have HP := Lib.hid hp
  obtain ⟨r, hre⟩ : ∃ r, indexR ks ys = r := ⟨_, rfl⟩
  rw [hre]
  have HRR := Lib.hid hre
  clear hr hk hy hp hre
  go_enter Tryd.func75, Tryd.ntmps75
  go_wp2_with fail
  go_loopg [8] ks.length (fun gg ctr wr => ∃ i : Nat, i ≤ ks.length ∧ gg = ks.length - i ∧ ctr = .int .i64 i ∧ (∃ k, wr = w.drewN k) ∧ ∀ k (h1 : k < ks.length), k < i → ks[k] ≠ ys)
  case atStart => exact ⟨0, by omega, rfl, rfl, ⟨0, rfl⟩, fun k _ hk => by omega⟩
  case round =>
    obtain ⟨i, hi, rfl, rfl, ⟨q, rfl⟩, hall⟩ := hrel
    have HALL := Lib.hid hall
    clear hall
    by_cases hlt : i < ks.length
    · obtain ⟨b1, o1, u, e1, _, hu, c1⟩ := HR.out.cell1 hlt
      subst e1
      have HB := Lib.hid (HK.out i hlt u hu)
      have HI1 : Hid (ks[i] = ys → r = (i : Int)) := fun e => by rw [← HRR.out]; exact indexR_some hlt HALL.out e
      have HI2 : Hid (ks[i] ≠ ys → ∀ k (h1 : k < ks.length), k < i + 1 → ks[k] ≠ ys) := fun e k h1 hk => by
        rcases Nat.lt_or_eq_of_le (Nat.le_of_lt_succ hk) with h | h
        · exact HALL.out k h1 h
        · subst h; exact e
      generalize ks[i] = xa at *
      have c1' : (w.drewN q).cell? ⟨b1, o1 + i, none⟩ = some u := c1
      clear hu c1
      go_wp2_with fail
      refine (Alike1_any u v pb (w.drewN q) (HB.out.same fun _ _ => rfl) (HY.out.same fun _ _ => rfl) HP.out).mono ?_
      rintro e w' ⟨rfl, k, rfl⟩
      by_cases he : xa = ys
      · have HE := Lib.hid (HI1.out he)
        rw [decide_eq_true he]
        clear he
        go_wp2_with fail
        go_ret
        exact ⟨by rw [HE.out]; rfl, _, rfl⟩
      · have HN2 := Lib.hid (HI2.out he)
        rw [decide_eq_false he]
        clear he
        go_wp2_with fail
        go_roundg (ks.length - (i + 1))
        case measure => omega
        case rel => exact ⟨i + 1, by omega, rfl, by go_num, ⟨_, rfl⟩, HN2.out⟩
    · obtain rfl : i = ks.length := by omega
      have HE : Hid (r = -1) := by show _ = _; rw [← HRR.out]; exact indexR_none fun k h1 => HALL.out k h1 h1
      go_wp2_with fail
      go_ret
      exact ⟨by rw [HE.out]; rfl, _, rfl⟩
end Go.Proofs.YtmmakljmikdooaaDoor
/- Chapter 4: the program's times, has. -/
namespace Go.Proofs.YtmmakljmikdooaaDoor
open Go.RowKit
set_option linter.unusedVariables false
set_option linter.unusedSimpArgs false

theorem tmul_le {a b B C : Int} (h : -B ≤ a ∧ a ≤ B) (k : -C ≤ b ∧ b ≤ C) : -(B * C) ≤ a * b ∧ a * b ≤ B * C := by
  have h0 : 0 ≤ B := by omega
  have h1 : a.natAbs ≤ B.toNat := by omega
  have h2 : b.natAbs ≤ C.toNat := by omega
  have h3 : (a * b).natAbs ≤ B.toNat * C.toNat := by rw [Int.natAbs_mul]; exact Nat.mul_le_mul h1 h2
  have h4 : ((B.toNat * C.toNat : Nat) : Int) = B * C := by rw [Int.natCast_mul, Int.toNat_of_nonneg h0, Int.toNat_of_nonneg (by omega)]
  omega
theorem times2_any (z p : Pt) (w : World) (hz : z.le 1000000) (hp : isZ p = false) :
    Calls Tryd.prog 65 #[z.val, p.val] w fun e w' => e = .returned (.int .i64 (timesF z p)) ∧ Below w.heap.size w w' := by
  have HB0 := Lib.hid (al2 w (.cells #[.int .i64 z.x, .int .i64 z.y] 78) (.cells #[.int .i64 p.x, .int .i64 p.y] 78))
  have HX := Lib.hid ((Arr.new w #[.int .i64 z.x, .int .i64 z.y] 78).alloc (.cells #[.int .i64 p.x, .int .i64 p.y] 78))
  have HY := Lib.hid (arr_new2 w (.cells #[.int .i64 z.x, .int .i64 z.y] 78) #[.int .i64 p.x, .int .i64 p.y] 78)
  have hz1 := isZ_or hp
  have hq1 := tdiv_le z.x p.x ⟨hz.1, hz.2.1⟩
  have hq2 := tdiv_le z.y p.y ⟨hz.2.2.1, hz.2.2.2⟩
  obtain ⟨r, hr⟩ : ∃ r, timesF z p = r := ⟨_, rfl⟩
  rw [hr]
  have HR : Hid ((p.x = 0 → r = z.y.tdiv p.y) ∧ (¬ p.x = 0 → r = z.x.tdiv p.x)) :=
    ⟨fun h => by rw [← hr]; unfold timesF; rw [if_neg (by simpa using h)], fun h => by rw [← hr]; unfold timesF; rw [if_pos h]⟩
  clear hr
  obtain ⟨zx, zy⟩ := z
  obtain ⟨px, py⟩ := p
  unfold Pt.val
  unfold Pt.le at hz
  dsimp only at *
  clear hp
  go_enter Tryd.func65, Tryd.ntmps65
  go_upto_region 1 with fail
  generalize (w.alloc (.cells #[.int .i64 zx, .int .i64 zy] 78)).alloc (.cells #[.int .i64 px, .int .i64 py] 78) = w0 at *
  have a0 := HX.out.cell (k := 0) rfl
  have a1 := HX.out.cell (k := 1) rfl
  have b0 := HY.out.cell (k := 0) rfl
  have b1 := HY.out.cell (k := 1) rfl
  by_cases h : px = 0
  · have hy0 : ¬ py = 0 := by omega
    have q : (px != 0) = false := by simpa using h
    have HE := Lib.hid (HR.out.1 h)
    clear hz1 h HR
    generalize zx.tdiv px = q1 at *
    generalize hq : zy.tdiv py = q2 at *
    go_wp2_with fail
    go_ret
    refine ⟨?_, HB0.out⟩
    rw [HE.out]; rfl
  · have q : (px != 0) = true := by simpa using h
    have HE := Lib.hid (HR.out.2 h)
    clear hz1 HR
    generalize zy.tdiv py = q1 at *
    generalize hq : zx.tdiv px = q2 at *
    go_wp2_with fail
    go_ret
    refine ⟨?_, HB0.out⟩
    rw [HE.out]; rfl
theorem has_any (s u z : Pt) (w : World) (hz : z.le 1000000) (hs : s.le 1000000) (hu : u.le 1000000) (hsx : 1 ≤ s.x) (huy : 1 ≤ u.y) :
    Calls Tryd.prog 44 #[.agg #[.int .i64 s.x, .int .i64 s.y, .int .i64 u.x, .int .i64 u.y], z.val] w fun e w' => e = .returned (.bool (hasF s u z)) ∧ Below w.heap.size w w' := by
  have HB0 := Lib.hid (al2 w (.cells #[.int .i64 s.x, .int .i64 s.y, .int .i64 u.x, .int .i64 u.y] 80) (.cells #[.int .i64 z.x, .int .i64 z.y] 78))
  have HX := Lib.hid ((Arr.new w #[.int .i64 s.x, .int .i64 s.y, .int .i64 u.x, .int .i64 u.y] 80).alloc (.cells #[.int .i64 z.x, .int .i64 z.y] 78))
  have HY := Lib.hid (arr_new2 w (.cells #[.int .i64 s.x, .int .i64 s.y, .int .i64 u.x, .int .i64 u.y] 80) #[.int .i64 z.x, .int .i64 z.y] 78)
  have hq1 := tdiv_le z.y u.y ⟨hz.2.2.1, hz.2.2.2⟩
  have hm := tmul_le hq1 ⟨hu.1, hu.2.1⟩
  obtain ⟨r, hr⟩ : ∃ r, hasF s u z = r := ⟨_, rfl⟩
  rw [hr]
  have HR : Hid ((¬ z.y.tmod u.y = 0 → r = false) ∧ (z.y.tmod u.y = 0 → r = decide ((z.x - z.y.tdiv u.y * u.x).tmod s.x = 0))) :=
    ⟨fun h => by rw [← hr]; unfold hasF; rw [decide_eq_false h, Bool.false_and], fun h => by rw [← hr]; unfold hasF; rw [decide_eq_true h, Bool.true_and]⟩
  clear hr
  obtain ⟨zx, zy⟩ := z
  obtain ⟨sx, sy⟩ := s
  obtain ⟨ux, uy⟩ := u
  unfold Pt.val
  unfold Pt.le at *
  dsimp only at *
  have hsx0 : ¬ sx = 0 := by omega
  have huy0 : ¬ uy = 0 := by omega
  go_enter Tryd.func44, Tryd.ntmps44
  go_upto_region 1 with fail
  generalize (w.alloc (.cells #[.int .i64 sx, .int .i64 sy, .int .i64 ux, .int .i64 uy] 80)).alloc (.cells #[.int .i64 zx, .int .i64 zy] 78) = w0 at *
  have a0 := HX.out.cell (k := 0) rfl
  have a1 := HX.out.cell (k := 1) rfl
  have a2 := HX.out.cell (k := 2) rfl
  have a3 := HX.out.cell (k := 3) rfl
  have b0 := HY.out.cell (k := 0) rfl
  have b1 := HY.out.cell (k := 1) rfl
  generalize hq : zy.tdiv uy = q at *
  have hwm : wrap64 (q * ux) = q * ux := IntWalk.wrap64_in _ (by omega)
  have hws : wrap64 (zx - q * ux) = zx - q * ux := IntWalk.wrap64_in _ (by omega)
  generalize hqm : q * ux = qm at *
  generalize hd : zx - qm = dd at *
  by_cases h : zy.tmod uy = 0
  · have HE := Lib.hid (HR.out.2 h)
    have h0 : (zy.tmod uy == 0) = true := by simpa using h
    clear HR
    by_cases h2 : dd.tmod sx = 0
    · rw [decide_eq_true h2] at HE
      have h3 : (dd.tmod sx == 0) = true := by simpa using h2
      clear h2 h
      go_wp2_with (go_quiet (fail))
      go_ret
      refine ⟨?_, below_dN HB0.out⟩
      rw [HE.out]; rfl
    · rw [decide_eq_false h2] at HE
      have h3 : (dd.tmod sx == 0) = false := by simpa using h2
      clear h2 h
      go_wp2_with (go_quiet (fail))
      go_ret
      refine ⟨?_, below_dN HB0.out⟩
      rw [HE.out]; rfl
  · have HE := Lib.hid (HR.out.1 h)
    have h0 : (zy.tmod uy == 0) = false := by simpa using h
    clear HR h
    go_wp2_with (go_quiet (fail))
    go_ret
    refine ⟨?_, below_dN HB0.out⟩
    rw [HE.out]; rfl
end Go.Proofs.YtmmakljmikdooaaDoor
