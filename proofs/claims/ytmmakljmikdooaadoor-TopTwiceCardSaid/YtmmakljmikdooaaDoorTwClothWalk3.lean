import Derived.Test.YtmmakljmikdooaaDoorTw19
/- Chapter 7: the program's Lift. -/
namespace Go.Proofs.YtmmakljmikdooaaDoor
open Go.RowKit
set_option linter.unusedVariables false
set_option linter.unusedSimpArgs false

def upto (ins : List Bool) (n : Nat) : List Nat := (List.range n).filter fun i => ins.getD i false
theorem upto_next (ins : List Bool) {n : Nat} (h : n < ins.length) : upto ins (n + 1) = if ins[n] = true then upto ins n ++ [n] else upto ins n := by
  have e : ins.getD n false = ins[n] := by simp [List.getD, List.getElem?_eq_getElem h]
  unfold upto
  rw [trues_take, e]
theorem upto_len (ins : List Bool) (n : Nat) : (upto ins n).length ≤ n := by
  unfold upto
  exact Nat.le_trans (List.length_filter_le _ _) (by simp)
theorem upto_all {m : Tr} {s : Nat} {ins : List Bool} (hl : ins.length = m.w + m.h) (hr : ∀ a, ins[a]? = some true ↔ Reach m s a) (hs : s < m.w + m.h) :
    1 ≤ (upto ins (m.w + m.h)).length ∧ ((upto ins (m.w + m.h)).length = m.w + m.h ↔ ∀ a, a < m.w + m.h → Reach m s a) := by
  have get : ∀ a, ins.getD a false = true ↔ ins[a]? = some true := fun a => by
    unfold List.getD
    cases ins[a]? <;> simp
  refine ⟨?_, ?_⟩
  · refine List.length_pos_of_mem (a := s) ?_
    unfold upto
    rw [List.mem_filter]
    exact ⟨List.mem_range.2 hs, (get s).2 ((hr s).2 (.refl hs))⟩
  · have h1 : (upto ins (m.w + m.h)).length = (List.range (m.w + m.h)).length ↔ _ := List.length_filter_eq_length_iff
    rw [List.length_range] at h1
    rw [h1]
    exact ⟨fun h a ha => (hr a).1 ((get a).1 (h a (List.mem_range.2 ha))), fun h a ha => (get a).2 ((hr a).2 (h a (List.mem_range.1 ha)))⟩
set_option maxRecDepth 100000 in
set_option maxHeartbeats 4000000 in
theorem Lift_any {S : Nat → Prop} {A : Option Addr} {c : Nat} {m : Tr} (w : World) (hv : TrR w S (.agg #[.int .i64 (m.w : Int), .int .i64 (m.h : Int), .slice A m.bs.length c]) m) (hS : ∀ b, S b → b < w.heap.size) (hm : OkT m) :
    Calls Tryd.prog 34 #[.agg #[.int .i64 (m.w : Int), .int .i64 (m.h : Int), .slice A m.bs.length c]] w fun e w' => ∃ A' n c', e = .returned (.tuple #[.slice A' n c', .int .i64 0]) ∧ (n = 0 ↔ Hangs m) ∧ Below w.heap.size w w' := by
  have HV := Lib.hid hv
  have HSS := Lib.hid hS
  have HOK := Lib.hid hm
  obtain ⟨A1, c1, e1, _, _, hrow⟩ := hv.form
  have HRW : Hid (Row w S 1 A m.bs.length (m.bs.map Value.bool)) := by
    simp only [Value.agg.injEq, Array.mk.injEq, List.cons.injEq, Value.slice.injEq, true_and, and_true] at e1
    rw [e1.1]
    exact hrow
  clear hv hrow e1
  have b1 := hm.W1
  have b2 := hm.W2
  have b3 := hm.H1
  have b4 := hm.H2
  clear hS hm
  have hNi : (m.w : Int) + (m.h : Int) = ((m.w + m.h : Nat) : Int) := by omega
  have hNl : m.w + m.h ≤ 128 := by omega
  have HSP : Hid (∀ w0, Below w.heap.size w w0 → Calls Tryd.prog 56 #[.agg #[.int .i64 (m.w : Int), .int .i64 (m.h : Int), .slice A m.bs.length c]] w0 fun e w' => ∃ g, e = .returned (.tuple #[.agg #[.int .i64 (m.w : Int), .int .i64 ((m.w + m.h : Nat) : Int), .func (.func 77) #[] #[.pointer (some ⟨g, 0, none⟩)]], .int .i64 0]) ∧ w0.heap.size ≤ g ∧
      Arr w' g 32 [.int .i64 (m.w : Int), .int .i64 (m.h : Int), .slice A m.bs.length c] ∧ Below w0.heap.size w0 w') := fun w0 hb => by
    have h := spun_any w0 (HV.out.same fun b k => hb.block b (HSS.out b k)) (fun b k => Nat.lt_of_lt_of_le (HSS.out b k) hb.size) HOK.out
    unfold webV at h
    rw [hNi] at h
    exact h
  have HOV : Hid (∀ (s g : Nat) (W : World), Below w.heap.size w W → Arr W g 32 [.int .i64 (m.w : Int), .int .i64 (m.h : Int), .slice A m.bs.length c] → s < m.w + m.h → Calls Tryd.prog 57 #[.agg #[.int .i64 (m.w : Int), .int .i64 ((m.w + m.h : Nat) : Int), .func (.func 77) #[] #[.pointer (some ⟨g, 0, none⟩)]], .int .i64 (s : Int)] W fun e w' => ∃ ins : List Bool, e = .returned (.slice (some ⟨W.heap.size + 1, 0, none⟩) (m.w + m.h) (m.w + m.h)) ∧
      Arr w' (W.heap.size + 1) 4 (ins.map Value.bool) ∧ ins.length = m.w + m.h ∧ (∀ a, ins[a]? = some true ↔ Reach m s a) ∧ Below W.heap.size W w') := fun s g W hb hg hs => by
    have h := over_any s g W HOK.out hg (HRW.out.same fun b k => hb.block b (HSS.out b k)) (fun b k => Nat.lt_of_lt_of_le (HSS.out b k) hb.size) hs
    unfold webV at h
    rw [hNi] at h
    exact h
  have HUA : Hid (∀ (s : Nat) (ins : List Bool), ins.length = m.w + m.h → (∀ a, ins[a]? = some true ↔ Reach m s a) → s < m.w + m.h → 1 ≤ (upto ins (m.w + m.h)).length ∧ ((upto ins (m.w + m.h)).length = m.w + m.h ↔ ∀ a, a < m.w + m.h → Reach m s a)) := fun s ins h1 h2 h3 => upto_all h1 h2 h3
  have HHG : Hid (Hangs m ↔ ∀ s a, s < m.w + m.h → a < m.w + m.h → Reach m s a) := Iff.rfl
  generalize Hangs m = hang at *
  generalize hN : m.w + m.h = N at *
  clear hNi
  have HX := Lib.hid (Arr.new w #[.int .i64 (m.w : Int), .int .i64 (m.h : Int), .slice A m.bs.length c] 32)
  have HB0 := Lib.hid (al1 w (.cells #[.int .i64 (m.w : Int), .int .i64 (m.h : Int), .slice A m.bs.length c] 32))
  go_enter Tryd.func34, Tryd.ntmps34
  go_upto_region 1 with fail
  generalize w.alloc (.cells #[.int .i64 (m.w : Int), .int .i64 (m.h : Int), .slice A m.bs.length c] 32) = w0 at *
  have x0 := HX.out.cell (k := 0) rfl
  have x1 := HX.out.cell (k := 1) rfl
  have x2 := HX.out.cell (k := 2) rfl
  go_wp2_with fail
  refine (HSP.out w0 HB0.out).mono ?_
  rintro e w1 ⟨g, rfl, hg0, hg, hb1⟩
  have HB1 := Lib.hid (HB0.out.trans (hb1.mono HB0.out.size))
  clear hb1 x0 x1 x2 HX
  have HG2 := Lib.hid (hg.alloc (.cells #[.int .i64 (m.w : Int), .int .i64 (N : Int), .func (.func 77) #[] #[.pointer (some ⟨g, 0, none⟩)]] 136))
  have HZ2 := Lib.hid (Arr.new w1 #[.int .i64 (m.w : Int), .int .i64 (N : Int), .func (.func 77) #[] #[.pointer (some ⟨g, 0, none⟩)]] 136)
  have HB2 := Lib.hid (below_al HB1.out (Nat.le_refl _) (.cells #[.int .i64 (m.w : Int), .int .i64 (N : Int), .func (.func 77) #[] #[.pointer (some ⟨g, 0, none⟩)]] 136))
  clear hg
  go_upto_region 5 with fail
  generalize w1.alloc (.cells #[.int .i64 (m.w : Int), .int .i64 (N : Int), .func (.func 77) #[] #[.pointer (some ⟨g, 0, none⟩)]] 136) = w2 at *
  have HZG : Hid (∀ W, Below w2.heap.size w2 W → Arr W w1.heap.size 136 [.int .i64 (m.w : Int), .int .i64 (N : Int), .func (.func 77) #[] #[.pointer (some ⟨g, 0, none⟩)]] ∧ Arr W g 32 [.int .i64 (m.w : Int), .int .i64 (m.h : Int), .slice A m.bs.length c] ∧ Below w.heap.size w W) := fun W hb =>
    ⟨HZ2.out.of_eq (hb.block _ HZ2.out.lt), HG2.out.of_eq (hb.block _ HG2.out.lt), HB2.out.trans (hb.mono HB2.out.size)⟩
  clear HZ2 HG2 HB2 HB0 HB1 HSP
  go_loopg [20] N (fun gg ctr wr => ∃ (s : Nat), s ≤ N ∧ gg = N - s ∧ ctr = .int .i64 (s : Int) ∧ (∀ t a, t < s → a < N → Reach m t a) ∧ Below w2.heap.size w2 wr)
  case atStart => exact ⟨0, Nat.zero_le _, rfl, rfl, fun t a h => absurd h (Nat.not_lt_zero _), Below.refl _ _⟩
  case round =>
    obtain ⟨s, hs, rfl, rfl, hall, hb⟩ := hrel
    have HALL := Lib.hid hall
    have HB := Lib.hid hb
    clear hall hb
    rename World => w3
    obtain ⟨hz, hg, hbw⟩ := HZG.out w3 HB.out
    have HG := Lib.hid hg
    have HBW := Lib.hid hbw
    have z0 := hz.cell (k := 0) rfl
    have z1 := hz.cell (k := 1) rfl
    have z2 := hz.cell (k := 2) rfl
    clear hz hg hbw
    by_cases hlt : s < N
    case neg =>
      obtain rfl : s = N := by omega
      have HF : Hid (hang) := HHG.out.2 fun t a ht ha => HALL.out t a ht ha
      go_wp2_with fail
      go_ret2
      exact ⟨none, 0, 0, rfl, ⟨fun _ => HF.out, fun _ => rfl⟩, HBW.out⟩
    go_wp2_with fail
    refine (HOV.out s g w3 HBW.out HG.out hlt).mono ?_
    rintro e w4 ⟨ins, rfl, harr, hil, hr, hb4⟩
    obtain ⟨hu1, hu2⟩ := HUA.out s ins hil hr hlt
    have HU1 := Lib.hid hu1
    have HU2 := Lib.hid hu2
    have HAR := Lib.hid harr
    have HRE := Lib.hid hr
    have HB4 := Lib.hid (HB.out.trans (hb4.mono HB.out.size))
    have HUN : Hid (∀ i (h : i < ins.length), upto ins (i + 1) = if ins[i] = true then upto ins i ++ [i] else upto ins i) := fun i h => upto_next ins h
    have HUL : Hid (∀ i, (upto ins i).length ≤ i) := upto_len ins
    have HU0 : Hid (upto ins 0 = []) := rfl
    clear hu1 hu2 hr harr hb4 z0 z1 z2 HG
    generalize upto ins = up at *
    go_wp2_with fail
    go_loopg [7, 27] N (fun gg v ctr wr => ∃ (i : Nat), i ≤ N ∧ gg = N - i ∧ ctr = .int .i64 (i : Int) ∧ wr.ownsRow w4.heap.size 3 1 v (up i).length ((up i).map fun k : Nat => Value.int .i64 (k : Int)) ∧ Below w4.heap.size w4 wr)
    case atStart => exact ⟨0, Nat.zero_le _, rfl, rfl, by rw [HU0.out]; exact World.ownsRow_nil _ _ _ _, Below.refl _ _⟩
    case round =>
      obtain ⟨i, hi, rfl, rfl, hown, hb5⟩ := hrel
      have HOW := Lib.hid hown
      have HB5 := Lib.hid hb5
      obtain ⟨Ao, co, rfl, _, _⟩ := own_form hown
      clear hown hb5
      rename World => w5
      by_cases hli : i < N
      case neg =>
        obtain rfl : i = N := by omega
        have hz5 := (HZG.out w5 (HB4.out.trans (HB5.out.mono HB4.out.size))).1
        have z1 := hz5.cell (k := 1) rfl
        clear hz5
        have hul := HUL.out i
        have HBF := Lib.hid (HZG.out w5 (HB4.out.trans (HB5.out.mono HB4.out.size))).2.2
        by_cases he : (up i).length = i
        · have HN := Lib.hid (HU2.out.1 he)
          have q : decide (((up i).length : Int) < (i : Int)) = false := decide_eq_false (by omega)
          have q2 : ¬ (up i).length < i := by omega
          go_wp2_with fail
          go_roundg (i - (s + 1))
          case measure => omega
          case rel =>
            refine ⟨s + 1, by omega, rfl, by go_num, fun t a ht ha => ?_, HB4.out.trans (HB5.out.mono HB4.out.size)⟩
            rcases Nat.lt_or_ge t s with k | k
            · exact HALL.out t a k ha
            · obtain rfl : t = s := by omega
              exact HN.out a ha
        · have HN : Hid (¬ hang) := fun h => he (HU2.out.2 fun a ha => HHG.out.1 h s a hlt ha)
          have q2 : (up i).length < i := by omega
          have hpos := HU1.out
          go_wp2_with fail
          go_ret2
          exact ⟨_, _, _, rfl, ⟨fun h => by omega, fun h => absurd h HN.out⟩, HBF.out⟩
      have hia : i < ins.length := by omega
      have c1 : w5.cell? ⟨w3.heap.size + 1, i, none⟩ = some (.bool ins[i]) := (HAR.out.of_eq (HB5.out.block _ HAR.out.lt)).cell (k := i) (by simp [hia])
      have hun := HUN.out i hia
      have hul := HUL.out i
      rcases Bool.eq_false_or_eq_true ins[i] with hvv | hvv
      · rw [hvv] at c1
        rw [if_pos hvv] at hun
        have HNU := Lib.hid hun
        clear hun hvv
        go_wp2_with (at_builtin
                     refine app_el T22d [.int .i64 (i : Int)] HOW.out HB5.out (Nat.le_refl _) rfl rfl rfl rfl rfl (by simp [Value.oneCell']) (by omega) ?_
                     intro v1 w8 hown1 hb1 hg1 ho1)
        have HOW8 : Hid (w8.ownsRow w4.heap.size 3 1 v1 (up (i + 1)).length ((up (i + 1)).map fun k : Nat => Value.int .i64 (k : Int))) := by
          show World.ownsRow ..
          rw [HNU.out]
          simpa using hown1
        have HB8 := Lib.hid hb1
        clear hown1 hb1 hg1 ho1
        go_roundg (N - (i + 1))
        case measure => omega
        case rel => exact ⟨i + 1, by omega, rfl, by go_num, HOW8.out, HB8.out⟩
      · rw [hvv] at c1
        rw [if_neg (by rw [hvv]; simp)] at hun
        have HNU := Lib.hid hun
        clear hun hvv
        go_wp2_with fail
        go_roundg (N - (i + 1))
        case measure => omega
        case rel => exact ⟨i + 1, by omega, rfl, by go_num, by rw [HNU.out]; exact HOW.out, HB5.out⟩
end Go.Proofs.YtmmakljmikdooaaDoor
