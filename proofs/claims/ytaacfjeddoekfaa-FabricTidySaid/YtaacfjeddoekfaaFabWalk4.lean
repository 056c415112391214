/- Chapter 12: the program's Tidy. -/
import Derived.Test.YtaacfjeddoekfaaLawTurned
import Derived.Test.YtaacfjeddoekfaaFabTidy
namespace Go.Proofs.Ytaacfjeddoekfaa
open Go.RowKit
set_option linter.unusedVariables false
set_option linter.unusedSimpArgs false

theorem miss_any (x : Sti) (w : World) : Calls Try.prog 37 #[.agg #[.int .i64 x.d, .int .i64 x.b, .int .i64 x.n, .int .i64 x.c, .int .i64 x.t]] w fun e w' => e = .returned (.bool (x.d != 3)) ∧ Below w.heap.size w w' := by
  have HB : Hid (∀ o, Below w.heap.size w (w.alloc o)) := fun o => (Below.refl _ _).alloc (Nat.le_refl _) o
  go_enter Try.func37, Try.ntmps37
  go_wp2_with fail
  go_ret
  exact ⟨rfl, HB.out _⟩
/-- where the first is that is no miss -/
def NextIx (m : List Sti) (r : Int) : Prop := (r = -1 ∧ ∀ j (h : j < m.length), m[j].d = 3) ∨ ∃ k, ∃ h : k < m.length, r = (k : Int) ∧ m[k].d ≠ 3 ∧ ∀ j (hj : j < k), m[j].d = 3
theorem next_none : ∀ {m : List Sti}, (∀ j (h : j < m.length), m[j].d = 3) → nextRack m = false
  | [], _ => rfl
  | x :: m, h => by
    rw [nextRack, if_pos (show x.d = 3 from h 0 (by simp))]
    exact next_none fun j hj => h (j + 1) (by simpa using hj)
theorem next_some : ∀ {m : List Sti} {k : Nat} (h : k < m.length), m[k].d ≠ 3 → (∀ j (hj : j < k), m[j].d = 3) → nextRack m = decide (m[k].d = 6)
  | [], k, h, _, _ => by simp at h
  | x :: m, 0, h, hn, _ => by rw [nextRack, if_neg (by exact hn)]; rfl
  | x :: m, k + 1, h, hn, hj => by
    rw [nextRack, if_pos (show x.d = 3 from hj 0 (by omega))]
    exact next_some (m := m) (k := k) (by simpa using h) (by simpa using hn) fun j hj' => hj (j + 1) (by omega)

set_option maxHeartbeats 1000000 in
theorem index_any {S : Nat → Prop} {A : Option Addr} {c : Nat} {m : List Sti} (w : World) (hr : Row w S 5 A m.length (m.flatMap Sti.cells)) (hS : ∀ b, S b → b < w.heap.size) (hl : m.length ≤ 100000000000000) :
    Calls Try.prog 36 #[.slice A m.length c, .func (.func 37) #[] #[]] w fun e w' => (∃ r : Int, e = .returned (.int .i64 r) ∧ NextIx m r) ∧ Below w.heap.size w w' := by
  have HR := Lib.hid hr
  have HS := Lib.hid hS
  clear hr hS
  go_enter Try.func36, Try.ntmps36
  go_wp2_with fail
  go_loopg [8] m.length (fun gg ctr wr => ∃ i : Nat, i ≤ m.length ∧ gg = m.length - i ∧ ctr = .int .i64 i ∧ Below w.heap.size w wr ∧ ∀ j (h : j < m.length), j < i → m[j].d = 3)
  case atStart => exact ⟨0, by omega, rfl, rfl, Below.refl _ _, fun j h hj => by omega⟩
  case round =>
    obtain ⟨i, hi, rfl, rfl, hb, hall⟩ := hrel
    have HB := Lib.hid hb
    have HALL := Lib.hid hall
    clear hb hall
    by_cases hlt : i < m.length
    case neg =>
      obtain rfl : i = m.length := by omega
      go_wp2_with fail
      go_ret
      exact ⟨⟨_, rfl, .inl ⟨rfl, fun j h => HALL.out j h h⟩⟩, HB.out⟩
    obtain ⟨b, o, e, hbb, x0, x1, x2, x3, x4⟩ := sti_cells (HR.out.same (w' := wr) fun b hb => HB.out.block b (HS.out b hb)) hlt
    cases e
    have HI : Hid (∀ x, x = m[i] → x.d ≠ 3 → NextIx m (i : Int)) := fun x e h => .inr ⟨i, hlt, rfl, by rw [← e]; exact h, fun j hj => HALL.out j (by omega) hj⟩
    have HN : Hid (∀ x, x = m[i] → x.d = 3 → ∀ j (h : j < m.length), j < i + 1 → m[j].d = 3) := fun x e h j hj hji => by
      rcases Nat.lt_or_eq_of_le (Nat.le_of_lt_succ hji) with h1 | h1
      · exact HALL.out j hj h1
      · subst h1; rw [← e]; exact h
    generalize hx : m[i] = x at *
    have HX : Hid (x = m[i]) := hx.symm
    have HI2 := Lib.hid (HI.out x rfl)
    have HN2 := Lib.hid (HN.out x rfl)
    clear hx HI HN
    go_wp2_with fail
    refine (miss_any x wr).mono ?_
    rintro e w2 ⟨rfl, hb2⟩
    have HB2 := Lib.hid (HB.out.trans (hb2.mono HB.out.size))
    clear hb2
    by_cases hd : x.d = 3
    · have hdb : (x.d != 3) = false := by simpa using hd
      have HN3 := Lib.hid (HN2.out hd)
      clear hd
      go_wp2_with fail
      go_roundg (m.length - (i + 1))
      case measure => omega
      case rel => exact ⟨i + 1, by omega, rfl, by go_num, HB2.out, HN3.out⟩
    · have hdb : (x.d != 3) = true := by simpa using hd
      have HI3 := Lib.hid (HI2.out hd)
      clear hd
      go_wp2_with fail
      go_ret
      exact ⟨⟨_, rfl, HI3.out⟩, HB2.out⟩

set_option maxRecDepth 100000 in
set_option maxHeartbeats 3000000 in
theorem Tidy_any {v : Value} {l : List Sti} (w : World) (hv : Stitches w (fun b => b < w.heap.size) v l) (hl : l.length * 40 ≤ 140737488351232) :
    Calls Try.prog 20 #[v] w fun e w' => ∃ u, e = .returned u ∧ w'.ownsRow w.heap.size 44 5 u (tidyK 0 l).length ((tidyK 0 l).flatMap Sti.cells) ∧ Below w.heap.size w w' := by
  have HV := Lib.hid hv
  obtain ⟨A, c, rfl, h1, h2, hr⟩ := hv
  clear hr
  unfold maxLen at h2
  go_enter Try.func20, Try.ntmps20
  go_wp2_with fail
  go_loopg [3, 4, 10] l.length (fun gg out rk ctr wr => ∃ (i : Nat) (O : List Sti) (r : Int), i ≤ l.length ∧ gg = l.length - i ∧ ctr = .int .i64 i ∧ rk = .int .i64 r ∧ wr.ownsRow w.heap.size 44 5 out O.length (O.flatMap Sti.cells) ∧ Below w.heap.size w wr ∧ tidyK 0 l = O ++ tidyK r (l.drop i) ∧ O.length ≤ i)
  case atStart => exact ⟨0, [], 0, by omega, rfl, rfl, rfl, World.ownsRow_nil _ _ _ _, Below.refl _ _, rfl, Nat.le_refl _⟩
  case round =>
    obtain ⟨i, O, r, hi, rfl, rfl, rfl, ho, hb, ht, hol⟩ := hrel
    have HO := Lib.hid ho
    have HB := Lib.hid hb
    have HT := Lib.hid ht
    clear hb ht ho
    by_cases hlt : i < l.length
    case neg =>
      obtain rfl : i = l.length := by omega
      rw [List.drop_length] at HT
      go_wp2_with fail
      go_ret
      have e : tidyK 0 l = O := by rw [HT.out]; exact List.append_nil O
      rw [e]
      exact ⟨_, rfl, HO.out, HB.out⟩
    have hrow := srow_of (HV.out.same (Same.of_below HB.out))
    obtain ⟨b, o, e, hbb, x0, x1, x2, x3, x4⟩ := sti_cells hrow hlt
    cases e
    have hbw : b < wr.heap.size := Nat.lt_of_lt_of_le hbb HB.out.size
    have hd1 : l.drop i = l[i] :: l.drop (i + 1) := List.drop_eq_getElem_cons hlt
    have HT2 : Hid (∀ x, x = l[i] → tidyK 0 l = O ++ tidyK r (x :: l.drop (i + 1))) := fun x e => by rw [e, ← hd1]; exact HT.out
    have HCUT : Hid (Row wr (fun b => b < w.heap.size) 5 (some ⟨b, o + (i + 1) * 5, none⟩) (l.drop (i + 1)).length ((l.drop (i + 1)).flatMap Sti.cells)) := by
      have := hrow.cut (i + 1) (by omega)
      have e : (l.flatMap Sti.cells).drop ((i + 1) * 5) = (l.drop (i + 1)).flatMap Sti.cells := by
        have h0 : l.flatMap Sti.cells = (l.take (i + 1)).flatMap Sti.cells ++ (l.drop (i + 1)).flatMap Sti.cells := by rw [← List.flatMap_append, List.take_append_drop]
        rw [h0, List.drop_left']
        rw [flat_len Sti.cells_len, List.length_take, Nat.min_eq_left (by omega)]
      rw [e] at this
      rw [List.length_drop]
      exact this
    have hdl : (l.drop (i + 1)).length = l.length - (i + 1) := List.length_drop
    have HNX : Hid (∀ k (h : k < (l.drop (i + 1)).length), wr.cell? ⟨b, o + (i + 1 + k) * 5, none⟩ = some (.int .i64 ((l.drop (i + 1))[k]).d)) := fun k h => by
      obtain ⟨b', o', e, _, y0, _⟩ := sti_cells hrow (k := i + 1 + k) (by omega)
      cases e
      rw [y0, List.getElem_drop]
    clear hd1 hrow
    generalize hm : l.drop (i + 1) = m at *
    have HM := Lib.hid hm
    clear hm
    generalize l[i] = x at *
    have HT3 := Lib.hid (HT2.out x rfl)
    clear HT HT2
    have HBA : Hid (∀ o, Below w.heap.size w (wr.alloc o)) := fun o => HB.out.alloc HB.out.size o
    by_cases d3 : x.d = 3
    · have q3 : (x.d == 3) = true := by simpa using d3
      have HE : Hid (tidyK 0 l = O ++ tidyK r m) := by show _ = _; rw [HT3.out, tidyK, if_pos d3]
      clear d3
      go_wp2_with fail
      go_roundg (l.length - (i + 1))
      case measure => omega
      case rel => exact ⟨i + 1, O, r, by omega, rfl, by go_num, rfl, own_al HO.out _, HBA.out _, by rw [HM.out]; exact HE.out, by omega⟩
    have q3 : (x.d == 3) = false := by simpa using d3
    have z0 := (Arr.new wr #[.int .i64 x.d, .int .i64 x.b, .int .i64 x.n, .int .i64 x.c, .int .i64 x.t] 44).cell (k := 0) rfl
    have z1 := (Arr.new wr #[.int .i64 x.d, .int .i64 x.b, .int .i64 x.n, .int .i64 x.c, .int .i64 x.t] 44).cell (k := 1) rfl
    have z2 := (Arr.new wr #[.int .i64 x.d, .int .i64 x.b, .int .i64 x.n, .int .i64 x.c, .int .i64 x.t] 44).cell (k := 2) rfl
    have z3 := (Arr.new wr #[.int .i64 x.d, .int .i64 x.b, .int .i64 x.n, .int .i64 x.c, .int .i64 x.t] 44).cell (k := 3) rfl
    have z4 := (Arr.new wr #[.int .i64 x.d, .int .i64 x.b, .int .i64 x.n, .int .i64 x.c, .int .i64 x.t] 44).cell (k := 4) rfl
    have HY := Lib.hid (Arr.new wr #[.int .i64 x.d, .int .i64 x.b, .int .i64 x.n, .int .i64 x.c, .int .i64 x.t] 44)
    have HOA := Lib.hid (own_al HO.out (.cells #[.int .i64 x.d, .int .i64 x.b, .int .i64 x.n, .int .i64 x.c, .int .i64 x.t] 44))
    have HBB := Lib.hid (HBA.out (.cells #[.int .i64 x.d, .int .i64 x.b, .int .i64 x.n, .int .i64 x.c, .int .i64 x.t] 44))
    have HSW : Hid (Below wr.heap.size wr (wr.alloc (.cells #[.int .i64 x.d, .int .i64 x.b, .int .i64 x.n, .int .i64 x.c, .int .i64 x.t] 44))) := (Below.refl _ _).alloc (Nat.le_refl _) _
    have hby : (O.length + 1) * 40 ≤ 140737488355328 := by omega
    by_cases d6 : x.d = 6
    case neg =>
      have q6 : (x.d == 6) = false := by simpa using d6
      have HE : Hid (tidyK 0 l = (O ++ [x]) ++ tidyK r m) := by show _ = _; rw [HT3.out, tidyK, if_neg d3, if_neg d6, List.append_assoc]; rfl
      clear d3 d6
      go_upto_region 12 with fail
      generalize wr.alloc (.cells #[.int .i64 x.d, .int .i64 x.b, .int .i64 x.n, .int .i64 x.c, .int .i64 x.t] 44) = w4 at *
      go_wp2_with (at_builtin
                   refine app_el T22 [.int .i64 x.d, .int .i64 x.b, .int .i64 x.n, .int .i64 x.c, .int .i64 x.t] HOA.out HBB.out (Nat.le_refl _) rfl rfl rfl rfl rfl ?_ ?_ ?_
                   rotate_right
                   intro v1 w5 hown1 hb1 hg1 ho1
                   have HF := Lib.hid (And.intro hown1 hb1)
                   clear hown1 hb1 hg1 ho1)
      all_goals (try (first | exact hby | (show ∀ u ∈ _, Value.oneCell' u = true; simp [Value.oneCell']) | (refine ⟨rfl, rfl, rfl, rfl, rfl⟩) | (simp [Value.oneCell'])))
      go_roundg (l.length - (i + 1))
      case measure => omega
      case rel => exact ⟨i + 1, O ++ [x], r, by omega, rfl, by go_num, rfl, by rw [List.length_append, List.length_singleton, List.flatMap_append]; simpa [Sti.cells] using HF.out.1, HF.out.2, by rw [HM.out]; exact HE.out, by rw [List.length_append, List.length_singleton]; omega⟩
    obtain ⟨xd, xb, xn, xc, xt⟩ := x
    dsimp only at *
    subst d6
    have HK : Hid (tidyK 0 l = O ++ (if xt = r ∨ nextRack m = true then tidyK r m else ⟨6, xb, xn, xc, xt⟩ :: tidyK xt m)) := by show _ = _; rw [HT3.out, tidyK, if_neg d3, if_pos rfl]
    have hml : m.length ≤ 100000000000000 := by omega
    clear d3 z0 z1 z2 z3 z4
    go_upto_region 9 with fail
    have HSIZ : Hid (w.heap.size ≤ wr.heap.size) := HB.out.size
    have HCW : Hid (Row (wr.alloc (.cells #[.int .i64 6, .int .i64 xb, .int .i64 xn, .int .i64 xc, .int .i64 xt] 44)) (fun b => b < w.heap.size) 5 (some ⟨b, o + (i + 1) * 5, none⟩) m.length (m.flatMap Sti.cells)) := HCUT.out.same fun b hb => HSW.out.block b (by have : b < w.heap.size := hb; have := HSIZ.out; omega)
    have HNW : Hid (∀ k (h : k < m.length), (wr.alloc (.cells #[.int .i64 6, .int .i64 xb, .int .i64 xn, .int .i64 xc, .int .i64 xt] 44)).cell? ⟨b, o + (i + 1 + k) * 5, none⟩ = some (.int .i64 (m[k]).d)) := fun k h => (HSW.out.cell (p := ⟨b, o + (i + 1 + k) * 5, none⟩) hbw).trans (HNX.out k h)
    have hbw4 : b < (wr.alloc (.cells #[.int .i64 6, .int .i64 xb, .int .i64 xn, .int .i64 xc, .int .i64 xt] 44)).heap.size := by simp; omega
    have hyl := HY.out.lt
    generalize wr.alloc (.cells #[.int .i64 6, .int .i64 xb, .int .i64 xn, .int .i64 xc, .int .i64 xt] 44) = w4 at *
    have HBB2 := HBB.out.size
    by_cases hcz : c = i + 1
    case pos =>
      subst hcz
      obtain rfl : m = [] := List.eq_nil_of_length_eq_zero (by omega)
      go_wp2_with fail
      refine (index_any (m := []) (S := fun b => b < w.heap.size) w4 (Row.nil _ _ _ _) (fun b hb => by have : b < w.heap.size := hb; omega) hml).mono ?_
      rintro e w5 ⟨⟨nx, rfl, hnx⟩, hb5⟩
      have HNX5 := Lib.hid hnx
      have HOC : Hid (w5.ownsRow w.heap.size 44 5 u3 O.length (O.flatMap Sti.cells)) := own_below HOA.out hb5 (Nat.le_refl _)
      have HBC : Hid (Below w.heap.size w w5) := HBB.out.trans (hb5.mono HBB.out.size)
      have HYC := Lib.hid (HY.out.of_eq (hb5.block _ hyl))
      have y0 := HYC.out.cell (k := 0) rfl
      have y1 := HYC.out.cell (k := 1) rfl
      have y2 := HYC.out.cell (k := 2) rfl
      have y3 := HYC.out.cell (k := 3) rfl
      have y4 := HYC.out.cell (k := 4) rfl
      clear hb5 hnx
      by_cases hc : xt = r
      · have qc : (xt == r) = true := by simpa using hc
        have HE : Hid (tidyK 0 l = O ++ tidyK r []) := by show _ = _; rw [HK.out, if_pos (.inl hc)]
        clear hc
        go_wp2_with fail
        go_roundg (l.length - (i + 1))
        case measure => omega
        case rel => exact ⟨i + 1, O, r, by omega, rfl, by go_num, rfl, HOC.out, HBC.out, by rw [HM.out]; exact HE.out, by omega⟩
      have qc : (xt == r) = false := by simpa using hc
      rcases HNX5.out with ⟨rfl, hall⟩ | ⟨k, hk, _⟩
      · have HE : Hid (tidyK 0 l = (O ++ [⟨6, xb, xn, xc, xt⟩]) ++ tidyK xt []) := by
          show _ = _
          rw [HK.out, if_neg, List.append_assoc]; rfl
          rintro (e | e)
          · exact hc e
          · rw [next_none hall] at e; cases e
        clear hc hall
        go_wp2_with (at_builtin
                     refine app_el T22 [.int .i64 6, .int .i64 xb, .int .i64 xn, .int .i64 xc, .int .i64 xt] HOC.out HBC.out (Nat.le_refl _) rfl rfl rfl rfl rfl ?_ ?_ ?_
                     rotate_right
                     intro v1 w6 hown1 hb1 hg1 ho1
                     have HF := Lib.hid (And.intro hown1 hb1)
                     clear hown1 hb1 hg1 ho1)
        all_goals (try (first | exact hby | (show ∀ u ∈ _, Value.oneCell' u = true; simp [Value.oneCell']) | (refine ⟨rfl, rfl, rfl, rfl, rfl⟩) | (simp [Value.oneCell'])))
        go_roundg (l.length - (i + 1))
        case measure => omega
        case rel => exact ⟨i + 1, O ++ [⟨6, xb, xn, xc, xt⟩], xt, by omega, rfl, by go_num, rfl, by rw [List.length_append, List.length_singleton, List.flatMap_append]; simpa [Sti.cells] using HF.out.1, HF.out.2, by rw [HM.out]; exact HE.out, by rw [List.length_append, List.length_singleton]; omega⟩
      exact absurd hk (Nat.not_lt_zero _)
    case neg =>
      have hcz2 : ¬ c - (i + 1) = 0 := by omega
      have hcz3 : ¬ c ≤ i + 1 := by omega
      go_wp2_with fail
      rw [← hdl]
      refine (index_any (S := fun b => b < w.heap.size) w4 HCW.out (fun b hb => by have : b < w.heap.size := hb; omega) hml).mono ?_
      rintro e w5 ⟨⟨nx, rfl, hnx⟩, hb5⟩
      have HNX5 := Lib.hid hnx
      have HOC : Hid (w5.ownsRow w.heap.size 44 5 u3 O.length (O.flatMap Sti.cells)) := own_below HOA.out hb5 (Nat.le_refl _)
      have HBC : Hid (Below w.heap.size w w5) := HBB.out.trans (hb5.mono HBB.out.size)
      have HYC := Lib.hid (HY.out.of_eq (hb5.block _ hyl))
      have y0 := HYC.out.cell (k := 0) rfl
      have y1 := HYC.out.cell (k := 1) rfl
      have y2 := HYC.out.cell (k := 2) rfl
      have y3 := HYC.out.cell (k := 3) rfl
      have y4 := HYC.out.cell (k := 4) rfl
      have HNC : Hid (∀ k (h : k < m.length), w5.cell? ⟨b, o + (i + 1 + k) * 5, none⟩ = some (.int .i64 (m[k]).d)) := fun k h => (hb5.cell (p := ⟨b, o + (i + 1 + k) * 5, none⟩) hbw4).trans (HNW.out k h)
      clear hb5 hnx
      by_cases hc : xt = r
      · have qc : (xt == r) = true := by simpa using hc
        have HE : Hid (tidyK 0 l = O ++ tidyK r m) := by show _ = _; rw [HK.out, if_pos (.inl hc)]
        clear hc
        go_wp2_with fail
        go_roundg (l.length - (i + 1))
        case measure => omega
        case rel => exact ⟨i + 1, O, r, by omega, rfl, by go_num, rfl, HOC.out, HBC.out, by rw [HM.out]; exact HE.out, by omega⟩
      have qc : (xt == r) = false := by simpa using hc
      rcases HNX5.out with ⟨rfl, hall⟩ | ⟨k, hk, rfl, hne, hall⟩
      · have HE : Hid (tidyK 0 l = (O ++ [⟨6, xb, xn, xc, xt⟩]) ++ tidyK xt m) := by
          show _ = _
          rw [HK.out, if_neg, List.append_assoc]; rfl
          rintro (e | e)
          · exact hc e
          · rw [next_none hall] at e; cases e
        clear hc hall
        go_wp2_with (at_builtin
                     refine app_el T22 [.int .i64 6, .int .i64 xb, .int .i64 xn, .int .i64 xc, .int .i64 xt] HOC.out HBC.out (Nat.le_refl _) rfl rfl rfl rfl rfl ?_ ?_ ?_
                     rotate_right
                     intro v1 w6 hown1 hb1 hg1 ho1
                     have HF := Lib.hid (And.intro hown1 hb1)
                     clear hown1 hb1 hg1 ho1)
        all_goals (try (first | exact hby | (show ∀ u ∈ _, Value.oneCell' u = true; simp [Value.oneCell']) | (refine ⟨rfl, rfl, rfl, rfl, rfl⟩) | (simp [Value.oneCell'])))
        go_roundg (l.length - (i + 1))
        case measure => omega
        case rel => exact ⟨i + 1, O ++ [⟨6, xb, xn, xc, xt⟩], xt, by omega, rfl, by go_num, rfl, by rw [List.length_append, List.length_singleton, List.flatMap_append]; simpa [Sti.cells] using HF.out.1, HF.out.2, by rw [HM.out]; exact HE.out, by rw [List.length_append, List.length_singleton]; omega⟩
      have hnr := next_some hk hne hall
      have u0 := HNC.out k hk
      clear hne hall
      generalize (m[k]).d = dk at *
      have hidx : i + 1 + k < l.length := by omega
      by_cases h6 : dk = 6
      · have q7 : (dk == 6) = true := by simpa using h6
        have HE : Hid (tidyK 0 l = O ++ tidyK r m) := by show _ = _; rw [HK.out, if_pos (.inr (by rw [hnr]; simpa using h6))]
        clear hc h6 hnr
        go_wp2_with fail
        go_roundg (l.length - (i + 1))
        case measure => omega
        case rel => exact ⟨i + 1, O, r, by omega, rfl, by go_num, rfl, HOC.out, HBC.out, by rw [HM.out]; exact HE.out, by omega⟩
      · have q7 : (dk == 6) = false := by simpa using h6
        have HE : Hid (tidyK 0 l = (O ++ [⟨6, xb, xn, xc, xt⟩]) ++ tidyK xt m) := by
          show _ = _
          rw [HK.out, if_neg, List.append_assoc]; rfl
          rintro (e | e)
          · exact hc e
          · rw [hnr] at e; exact h6 (of_decide_eq_true e)
        clear hc h6 hnr
        go_wp2_with (at_builtin
                     refine app_el T22 [.int .i64 6, .int .i64 xb, .int .i64 xn, .int .i64 xc, .int .i64 xt] HOC.out HBC.out (Nat.le_refl _) rfl rfl rfl rfl rfl ?_ ?_ ?_
                     rotate_right
                     intro v1 w6 hown1 hb1 hg1 ho1
                     have HF := Lib.hid (And.intro hown1 hb1)
                     clear hown1 hb1 hg1 ho1)
        all_goals (try (first | exact hby | (show ∀ u ∈ _, Value.oneCell' u = true; simp [Value.oneCell']) | (refine ⟨rfl, rfl, rfl, rfl, rfl⟩) | (simp [Value.oneCell'])))
        go_roundg (l.length - (i + 1))
        case measure => omega
        case rel => exact ⟨i + 1, O ++ [⟨6, xb, xn, xc, xt⟩], xt, by omega, rfl, by go_num, rfl, by rw [List.length_append, List.length_singleton, List.flatMap_append]; simpa [Sti.cells] using HF.out.1, HF.out.2, by rw [HM.out]; exact HE.out, by rw [List.length_append, List.length_singleton]; omega⟩
end Go.Proofs.Ytaacfjeddoekfaa
