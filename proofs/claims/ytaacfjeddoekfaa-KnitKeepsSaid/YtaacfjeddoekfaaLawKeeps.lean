/- Chapter 11: the walk of KnitKeeps. -/
import Derived.Test.YtaacfjeddoekfaaLawSkips
namespace Go.Proofs.Ytaacfjeddoekfaa
open Go.RowKit
set_option linter.unusedVariables false
set_option linter.unusedSimpArgs false

theorem flat_at {xs : List (List Int)} {i : Nat} (h : i < xs.length) : xs.flatMap id = (xs.take i).flatMap id ++ (xs[i] ++ (xs.drop (i + 1)).flatMap id) := by
  have e : xs = xs.take i ++ xs[i] :: xs.drop (i + 1) := by rw [← List.drop_eq_getElem_cons h, List.take_append_drop]
  have e2 := congrArg (List.flatMap id) e
  rw [List.flatMap_append, List.flatMap_cons] at e2
  exact e2
theorem flat_take {xs : List (List Int)} {i : Nat} (h : i < xs.length) : (xs.take (i + 1)).flatMap id = (xs.take i).flatMap id ++ xs[i] := by
  rw [List.take_succ_eq_append_getElem h, List.flatMap_append]; simp
/-- how often each of n numbers stands in P -/
def CR (w : World) (g n : Nat) (P : List Int) : Prop := Arr w g 3 ((List.range n).map fun j : Nat => .int .i64 ((P.count (j : Int) : Nat) : Int))
theorem CR.cell {w : World} {g n : Nat} {P : List Int} (h : CR w g n P) {j : Nat} (hj : j < n) : w.cell? ⟨g, j, none⟩ = some (.int .i64 ((P.count (j : Int) : Nat) : Int)) := Arr.cell h (by simp [hj])
theorem CR.set {w : World} {g n : Nat} {P : List Int} (h : CR w g n P) {j : Nat} (hj : j < n) : CR (w.setCell ⟨g, j, none⟩ (.int .i64 (((P.count (j : Int) : Nat) : Int) + 1))) g n (P ++ [(j : Int)]) := by
  have := Arr.set h j (.int .i64 (((P.count (j : Int) : Nat) : Int) + 1))
  unfold CR
  have e : ((List.range n).map fun j : Nat => Value.int .i64 ((P.count (j : Int) : Nat) : Int)).set j (.int .i64 (((P.count (j : Int) : Nat) : Int) + 1)) = (List.range n).map fun i : Nat => .int .i64 (((P ++ [(j : Int)]).count (i : Int) : Nat) : Int) := by
    apply List.ext_getElem
    · simp
    · intro i h1 h2
      simp only [List.length_set, List.length_map, List.length_range] at h1
      rw [List.getElem_set]
      by_cases hi : j = i
      · subst hi; simp
      · rw [if_neg hi]
        have e0 : [(j : Int)].count (i : Int) = 0 := List.count_eq_zero.2 (by simp; omega)
        simp [List.count_append, e0]
  rw [e] at this
  exact this
/-- what stands while loops are counted -/
structure KB (w3 w : World) (g n : Nat) (cL cT : List Value) (P : List Int) : Prop where
  below : Below w3.heap.size w3 w
  l : Arr w (g + 1) 25 cL
  t : Arr w (g + 2) 24 cT
  c : CR w g n P
  hg : w3.heap.size ≤ g
section
variable {w3 w : World} {g n : Nat} {cL cT : List Value} {P : List Int}
theorem KB.set (h : KB w3 w g n cL cT P) {j : Nat} (hj : j < n) : KB w3 (w.setCell ⟨g, j, none⟩ (.int .i64 (((P.count (j : Int) : Nat) : Int) + 1))) g n cL cT (P ++ [(j : Int)]) :=
  ⟨h.below.setCell h.hg _, h.l.far (by show g + 1 ≠ g; omega) _, h.t.far (by show g + 2 ≠ g; omega) _, h.c.set hj, h.hg⟩
theorem KB.al (h : KB w3 w g n cL cT P) (o : Obj) : KB w3 (w.alloc o) g n cL cT P := ⟨h.below.alloc h.below.size o, h.l.alloc o, h.t.alloc o, Arr.alloc h.c o, h.hg⟩
end
/-- each of n numbers stands once in T -/
structure OnceT (n : Nat) (T : List Int) : Prop where
  rng : ∀ x ∈ T, 0 ≤ x ∧ x < (n : Int)
  one : ∀ j : Nat, j < n → T.count (j : Int) = 1
theorem OnceT.at_ {n : Nat} {T P R : List Int} {x : Int} (h : OnceT n T) (e : T = P ++ (x :: R)) : 0 ≤ x ∧ x < (n : Int) ∧ P.count x = 0 := by
  obtain ⟨h1, h2⟩ := h.rng x (by rw [e]; simp)
  refine ⟨h1, h2, ?_⟩
  obtain ⟨j, rfl⟩ : ∃ j : Nat, x = (j : Int) := ⟨x.toNat, by omega⟩
  have := h.one j (by omega)
  rw [e, List.count_append, List.count_cons] at this
  simp at this
  omega
theorem once_T (N : Nat) (l : List Sti) : OnceT (afterK N l).loops.length (allOf (told N (afterK N l))) := by
  have ho := once_after N l
  refine ⟨fun x hx => ?_, fun j hj => ?_⟩
  · have h1 := ho.one x
    have h2 : 0 < (allOf (told N (afterK N l))).count x := List.count_pos_iff.2 hx
    rw [count_all] at h2
    by_cases c : 0 ≤ x ∧ x < ((afterK N l).loops.length : Int)
    · exact c
    · rw [if_neg c] at h1; omega
  · rw [count_all, ho.one, if_pos (by omega)]
theorem zeros_CR (w : World) (n : Nat) : CR (w.alloc (.cells (madeCells #[.int .i64 0] n) 3)) w.heap.size n [] := by
  have := Arr.new w (madeCells #[.int .i64 0] n) 3
  have e : (madeCells #[Value.int .i64 0] n).toList = (List.range n).map fun j : Nat => .int .i64 ((([] : List Int).count (j : Int) : Nat) : Int) := by
    apply List.ext_getElem?
    intro m
    by_cases hm : m < n
    · unfold madeCells; simp [hm, Nat.mod_one]
    · rw [List.getElem?_eq_none (by rw [Array.length_toList, size_madeCells]; omega), List.getElem?_eq_none (by simp; omega)]
  rw [e] at this
  exact this

set_option maxRecDepth 100000 in
set_option maxHeartbeats 8000000 in
theorem keeps_walk (n : Int) {v : Value} {l : List Sti} {w : World} (hv : Stis w v l) (hb : l.length * 40 ≤ 140737488351232) :
    Calls Try.prog 4 #[.int .i64 n, v] w fun e w' => e = .returned (.bool true) ∧ Below w.heap.size w w' := by
  have HV := Lib.hid hv.2
  have hv2 := hv.2
  by_cases hn : 1 ≤ n ∧ n ≤ 128
  case neg =>
    obtain ⟨A, c, rfl, h1, h2, hr⟩ := hv2
    clear hr hv
    have hn' : n < 1 ∨ 128 < n := by omega
    have HN := Lib.hid hn'
    clear hn hn'
    go_enter Try.func4, Try.ntmps4
    go_wp2_with fail
    refine (knitAlive w).mono ?_
    rintro e w1 ⟨rfl, hb1⟩
    have HB1 := Lib.hid hb1
    clear hb1
    go_wp2_with fail
    refine (plainKnit_bad n HN.out _ (stitches_grown HV.out HB1.out)).mono ?_
    rintro e w2 ⟨rfl, hb2⟩
    have HB2 : Hid (∀ o, Below w.heap.size w (w2.alloc o)) := fun o => (HB1.out.trans (hb2.mono HB1.out.size)).alloc (Nat.le_trans HB1.out.size hb2.size) o
    clear hb2
    go_wp2_with fail
    go_ret
    exact ⟨rfl, HB2.out _⟩
  obtain ⟨N, rfl⟩ : ∃ N : Nat, n = (N : Int) := ⟨n.toNat, by omega⟩
  have hN1 : 1 ≤ N := by omega
  have hN2 : N ≤ 128 := by omega
  obtain ⟨A, c, rfl, h1, h2, hr⟩ := hv2
  clear hr hv hn
  unfold maxLen at h2
  have hLL : (afterK N l).loops.length ≤ 4096 := by have := kinv_after N l; have := this.loops; have := (kinv_after N l).d; omega
  have HT := Lib.hid (once_T N l)
  have HBK : Hid (∀ i (h : i < (afterK N l).loops.length), ∀ y ∈ ((afterK N l).loops.getD i noLop).thr, 0 ≤ y ∧ y < (i : Int)) := fun i h y hy => by
    have e : (afterK N l).loops.getD i noLop = (afterK N l).loops[i] := by simp [h]
    rw [e] at hy
    exact (once_after N l).back i h y hy
  have hFL : (told N (afterK N l)).front.length = N ∧ (told N (afterK N l)).back.length = N ∧ (told N (afterK N l)).loops = (afterK N l).loops := ⟨by unfold told; simp, by unfold told; simp, rfl⟩
  have hNN : ((N : Int) != (N : Int)) = false := by simp
  go_enter Try.func4, Try.ntmps4
  go_wp2_with fail
  refine (knitAlive w).mono ?_
  rintro e w1 ⟨rfl, hb1⟩
  have HB1 := Lib.hid hb1
  clear hb1
  go_wp2_with fail
  refine (plainKnit_ok N hN1 hN2 _ (stitches_grown HV.out HB1.out) (by omega)).mono ?_
  rintro e w2 ⟨u, kv, rfl, hu, hk, hb2⟩
  have HB2 := Lib.hid (HB1.out.trans (hb2.mono HB1.out.size))
  obtain ⟨Au, cu, rfl, g1, g2, ra⟩ := hu
  clear hb2 ra
  obtain ⟨hF1, hF2, hF3⟩ := hFL
  rw [← hF3] at HT HBK hLL
  have hq1 : (((told N (afterK N l)).front.length : Int) != (N : Int)) = false := by rw [hF1]; simp
  have hq2 : (((told N (afterK N l)).back.length : Int) != (N : Int)) = false := by rw [hF2]; simp
  clear hF1 hF2 hF3 hNN
  generalize told N (afterK N l) = kn at *
  obtain ⟨vl, vf, vb, vo, rfl, hl', hf', hb', ho'⟩ := hk
  have HLo := Lib.hid hl'
  have HFr := Lib.hid hf'
  have HBa := Lib.hid hb'
  have HOo := Lib.hid ho'
  obtain ⟨Aq, cq, tq, rfl, _, hcq, _⟩ := hl'
  obtain ⟨Af, cf, tf, rfl, hf1, hf2, _⟩ := hf'
  obtain ⟨Ab, cb, tb, rfl, hb1, hb2, _⟩ := hb'
  obtain ⟨Ao, co, rfl, ho1, ho2, _⟩ := ho'
  unfold maxLen at hcq hf2 hb2 ho2
  have mk1 := fun w => run_mk T25 kn.loops.length kn.loops.length (Nat.le_refl _) (by omega) w
  have HS23 : Hid (Below w2.heap.size w2 (w2.alloc (.cells #[.slice Aq kn.loops.length cq, .slice Af kn.front.length cf, .slice Ab kn.back.length cb, .slice Ao kn.loose.length co, .int .i64 kn.rack] 27))) := (Below.refl _ _).alloc (Nat.le_refl _) _
  have HX := Lib.hid (Arr.new w2 #[.slice Aq kn.loops.length cq, .slice Af kn.front.length cf, .slice Ab kn.back.length cb, .slice Ao kn.loose.length co, .int .i64 kn.rack] 27)
  have HB3 : Hid (Below w.heap.size w (w2.alloc (.cells #[.slice Aq kn.loops.length cq, .slice Af kn.front.length cf, .slice Ab kn.back.length cb, .slice Ao kn.loose.length co, .int .i64 kn.rack] 27))) := HB2.out.alloc HB2.out.size _
  go_upto_region 4 with fail
  generalize w2.alloc (.cells #[.slice Aq kn.loops.length cq, .slice Af kn.front.length cf, .slice Ab kn.back.length cb, .slice Ao kn.loose.length co, .int .i64 kn.rack] 27) = w3 at *
  have a0 := HX.out.cell (k := 0) rfl
  have a1 := HX.out.cell (k := 1) rfl
  have a2 := HX.out.cell (k := 2) rfl
  have a3 := HX.out.cell (k := 3) rfl
  have hx3 := HX.out.lt
  have HKB : Hid (KB w3 (((w3.alloc (.cells (madeCells #[.int .i64 0] kn.loops.length) 3)).alloc (.cells #[.slice Ao kn.loose.length co] 25)).alloc (.cells #[.slice Af kn.front.length cf, .slice Ab kn.back.length cb, .slice (some ⟨w3.heap.size + 1, 0, none⟩) 1 1] 24)) w3.heap.size kn.loops.length
      [.slice Ao kn.loose.length co] [.slice Af kn.front.length cf, .slice Ab kn.back.length cb, .slice (some ⟨w3.heap.size + 1, 0, none⟩) 1 1] []) := by
    refine ⟨(((Below.refl _ _).alloc (Nat.le_refl _) _).alloc (by simp) _).alloc (by simp; omega) _, (arr_new2 w3 _ _ 25).alloc _, ?_, Arr.alloc (Arr.alloc (zeros_CR w3 _) _) _, Nat.le_refl _⟩
    have := Arr.new ((w3.alloc (.cells (madeCells #[.int .i64 0] kn.loops.length) 3)).alloc (.cells #[.slice Ao kn.loose.length co] 25)) #[.slice Af kn.front.length cf, .slice Ab kn.back.length cb, .slice (some ⟨w3.heap.size + 1, 0, none⟩) 1 1] 24
    simpa using this
  have hxg : w2.heap.size < w3.heap.size := hx3
  go_upto_region 10 with fail
  have hcl : ((((w3.alloc (.cells (madeCells #[.int .i64 0] kn.loops.length) 3)).alloc (.cells #[.slice Ao kn.loose.length co] 25)).alloc (.cells #[.slice Af kn.front.length cf, .slice Ab kn.back.length cb, .slice (some ⟨w3.heap.size + 1, 0, none⟩) 1 1] 24))).heap.size = w3.heap.size + 3 := by simp
  generalize ((w3.alloc (.cells (madeCells #[.int .i64 0] kn.loops.length) 3)).alloc (.cells #[.slice Ao kn.loose.length co] 25)).alloc (.cells #[.slice Af kn.front.length cf, .slice Ab kn.back.length cb, .slice (some ⟨w3.heap.size + 1, 0, none⟩) 1 1] 24) = w6 at *
  clear hcl a0 a1 a2 a3
  obtain ⟨X, hX⟩ : ∃ X : List (List (List Int)), X = [kn.front, kn.back, [kn.loose]] := ⟨_, rfl⟩
  obtain ⟨Y, hY⟩ : ∃ Y : List (List Int), Y = X.map fun y => y.flatMap id := ⟨_, rfl⟩
  obtain ⟨Z, hZ⟩ : ∃ Z : List (List Int), Z = kn.loops.map Lop.thr := ⟨_, rfl⟩
  have hYl : Y.length = 3 := by rw [hY, hX]; rfl
  have hZl : Z.length = kn.loops.length := by rw [hZ, List.length_map]
  have HZi : Hid (∀ i (h : i < Z.length), Z[i] = (kn.loops.getD i noLop).thr) := fun i h => by
    have hh : i < kn.loops.length := hZl ▸ h
    subst hZ
    simp [hh]
  have HTT : Hid (allOf kn = Y.flatMap id ++ Z.flatMap id) := by
    show _ = _
    subst hZ hY hX
    unfold allOf
    simp [List.flatMap_map]
  have HOUT : Hid (∀ wr, Below w3.heap.size w3 wr → ∀ b, b < w2.heap.size → wr.heap[b]? = w2.heap[b]?) := fun wr h b hb => (h.block b (by omega)).trans (HS23.out.block b hb)
  have HXV : Hid (∀ a (h : a < 3), ∃ Aa ca ta, ([.slice Af kn.front.length cf, .slice Ab kn.back.length cb, .slice (some ⟨w3.heap.size + 1, 0, none⟩) 1 1] : List Value)[a]? = some (Value.slice Aa (X.getD a []).length ca) ∧ (X.getD a []).length ≤ ca ∧ ca ≤ maxLen ∧
      (∀ wr P, KB w3 wr w3.heap.size kn.loops.length [.slice Ao kn.loose.length co] [.slice Af kn.front.length cf, .slice Ab kn.back.length cb, .slice (some ⟨w3.heap.size + 1, 0, none⟩) 1 1] (P) → Row wr (fun _ => True) 1 Aa (X.getD a []).length (vrow (X.getD a []).length ta) ∧ ∀ i, i < (X.getD a []).length → Ints wr (fun _ => True) (ta i) ((X.getD a []).getD i [])) ∧ ∃ h2 : a < Y.length, Y[a] = (X.getD a []).flatMap id) := fun a h => by
    have ha : a = 0 ∨ a = 1 ∨ a = 2 := by omega
    rcases ha with rfl | rfl | rfl
    · obtain ⟨Aa, ca, ta, e, q1, q2, q3, q4⟩ := HFr.out
      refine ⟨Aa, ca, ta, ?_, by subst hX; exact q1, q2, fun wr P hk => ⟨by subst hX; exact (q3.same fun b hb => HOUT.out wr hk.below b hb).mono fun _ _ => trivial, fun i hi => by subst hX; exact ((q4 i hi).same fun b hb => HOUT.out wr hk.below b hb).mono fun _ _ => trivial⟩, by omega, by subst hY hX; rfl⟩
      subst hX
      show some _ = some _
      rw [e]
      rfl
    · obtain ⟨Aa, ca, ta, e, q1, q2, q3, q4⟩ := HBa.out
      refine ⟨Aa, ca, ta, ?_, by subst hX; exact q1, q2, fun wr P hk => ⟨by subst hX; exact (q3.same fun b hb => HOUT.out wr hk.below b hb).mono fun _ _ => trivial, fun i hi => by subst hX; exact ((q4 i hi).same fun b hb => HOUT.out wr hk.below b hb).mono fun _ _ => trivial⟩, by omega, by subst hY hX; rfl⟩
      subst hX
      show some _ = some _
      rw [e]
      rfl
    · refine ⟨some ⟨w3.heap.size + 1, 0, none⟩, 1, fun _ => .slice Ao kn.loose.length co, by subst hX; rfl, by subst hX; exact Nat.le_refl _, by simp [maxLen], fun wr P hk => ⟨?_, fun i hi => ?_⟩, by omega, by subst hY hX; rfl⟩
      · subst hX
        refine ⟨rfl, fun _ => ⟨_, _, rfl, trivial, fun j u hu => ?_⟩⟩
        rw [Nat.zero_add]
        exact hk.l.cell (by simpa [vrow] using hu)
      · subst hX
        have hi0 : i = 0 := by have : ([kn.front, kn.back, [kn.loose]].getD 2 []).length = 1 := rfl; omega
        subst hi0
        exact (HOo.out.same fun b hb => HOUT.out wr hk.below b hb).mono fun _ _ => trivial
  have HXL : Hid (∀ wr, Below w3.heap.size w3 wr → LoopsRd wr (fun b => b < w2.heap.size) (.slice Aq kn.loops.length cq) kn.loops) := fun wr h => HLo.out.same fun b hb => HOUT.out wr h b hb
  have HBX : Hid (∀ wr, Below w3.heap.size w3 wr → wr.cell? ⟨w2.heap.size, 0, none⟩ = some (.slice Aq kn.loops.length cq)) := fun wr h => (HX.out.of_eq (h.block _ hx3)).cell (k := 0) rfl
  clear hX hY hZ HFr HBa HOo HLo
  have hYL := Lib.hid hYl
  have HZL := Lib.hid hZl
  clear hYl hZl
  go_loopg [57] 3 (fun gg ctr wr => ∃ a : Nat, a ≤ 3 ∧ gg = 3 - a ∧ ctr = .int .i64 a ∧ KB w3 wr w3.heap.size kn.loops.length [.slice Ao kn.loose.length co] [.slice Af kn.front.length cf, .slice Ab kn.back.length cb, .slice (some ⟨w3.heap.size + 1, 0, none⟩) 1 1] ((Y.take a).flatMap id))
  case atStart => exact ⟨0, by omega, rfl, rfl, HKB.out⟩
  case round =>
    clear HKB
    obtain ⟨a, ha, rfl, rfl, hkb⟩ := hrel
    have HK := Lib.hid hkb
    clear hkb
    by_cases ha3 : a < 3
    case neg =>
      obtain rfl : a = 3 := by omega
      have e3 : Y.take 3 = Y := List.take_of_length_le (by rw [hYL.out]; exact Nat.le_refl _)
      rw [e3] at HK
      have x0 := HBX.out _ HK.out.below
      clear e3 ha ha3 HXV
      go_wp2_with fail
      clear x0
      go_loopg [93] kn.loops.length (fun gg ctr wr => ∃ i : Nat, i ≤ kn.loops.length ∧ gg = kn.loops.length - i ∧ ctr = .int .i64 i ∧ KB w3 wr w3.heap.size kn.loops.length [.slice Ao kn.loose.length co] [.slice Af kn.front.length cf, .slice Ab kn.back.length cb, .slice (some ⟨w3.heap.size + 1, 0, none⟩) 1 1] (Y.flatMap id ++ (Z.take i).flatMap id))
      case atStart => exact ⟨0, by omega, rfl, rfl, by rw [List.take_zero, List.flatMap_nil, List.append_nil]; exact HK.out⟩
      case round =>
        clear HK
        obtain ⟨i, hi, rfl, rfl, hkb⟩ := hrel
        have HK := Lib.hid hkb
        clear hkb
        by_cases hil : i < kn.loops.length
        case neg =>
          obtain rfl : i = kn.loops.length := by omega
          have e3 : Z.take kn.loops.length = Z := List.take_of_length_le (by rw [HZL.out]; exact Nat.le_refl _)
          rw [e3, ← HTT.out] at HK
          clear e3 hi hil
          go_wp2_with fail
          go_loopg [122] kn.loops.length (fun gg ctr w9 => ∃ k : Nat, k ≤ kn.loops.length ∧ gg = kn.loops.length - k ∧ ctr = .int .i64 k ∧ w9 = wr)
          case atStart => exact ⟨0, by omega, rfl, rfl, rfl⟩
          case round =>
            obtain ⟨k, hk, rfl, rfl, rfl⟩ := hrel
            by_cases hkl : k < kn.loops.length
            case neg =>
              have HBZ : Hid (Below w.heap.size w wr) := HB3.out.trans (HK.out.below.mono HB3.out.size)
              go_wp2_with fail
              go_ret
              exact ⟨rfl, HBZ.out⟩
            have y0 := HK.out.c.cell hkl
            rw [HT.out.one k hkl] at y0
            go_wp2_with fail
            go_roundg (kn.loops.length - (k + 1))
            case measure => omega
            case rel => exact ⟨k + 1, by omega, rfl, by go_num, rfl⟩
        obtain ⟨A', c', tv, e, _, _, hrow, hin⟩ := HXL.out _ HK.out.below
        cases e
        obtain ⟨bb, oo, e, hbb, t0, t1⟩ := loop_cells hrow hil
        cases e
        obtain ⟨At, ct, et, g3, g4, _⟩ := hin i hil
        have HIN : Hid (∀ w9, Below w3.heap.size w3 w9 → Ints w9 (fun b => b < w2.heap.size) (tv i) (kn.loops.getD i noLop).thr) := fun w9 h9 => (hin i hil).same fun b hb => (HOUT.out w9 h9 b hb).trans (HOUT.out wr HK.out.below b hb).symm
        rw [et] at t1 HIN
        unfold maxLen at g4
        have hbw : bb < wr.heap.size := by have := HK.out.below.size; omega
        have hiz : i < Z.length := by rw [HZL.out]; exact hil
        have HT3 : Hid (∃ R, allOf kn = (Y.flatMap id ++ (Z.take i).flatMap id) ++ ((kn.loops.getD i noLop).thr ++ R)) := by
          refine ⟨(Z.drop (i + 1)).flatMap id, ?_⟩
          rw [HTT.out, flat_at hiz, HZi.out i hiz]
          simp only [List.append_assoc]
        have HN3 : Hid ((Z.take (i + 1)).flatMap id = (Z.take i).flatMap id ++ (kn.loops.getD i noLop).thr) := by show _ = _; rw [flat_take hiz, HZi.out i hiz]
        have HBI := Lib.hid (HBK.out i hil)
        have HK1 := Lib.hid (HK.out.al (.cells #[.int .i64 (kn.loops.getD i noLop).car, .slice At (kn.loops.getD i noLop).thr.length ct] 41))
        clear hin et hrow
        generalize (kn.loops.getD i noLop).thr = ys at *
        generalize (kn.loops.getD i noLop).car = car at *
        generalize (Z.take i).flatMap id = P2 at *
        go_wp2_with fail
        clear t0 t1
        go_loopg [101] ys.length (fun gg ctr wr => ∃ c : Nat, c ≤ ys.length ∧ gg = ys.length - c ∧ ctr = .int .i64 c ∧ KB w3 wr w3.heap.size kn.loops.length [.slice Ao kn.loose.length co] [.slice Af kn.front.length cf, .slice Ab kn.back.length cb, .slice (some ⟨w3.heap.size + 1, 0, none⟩) 1 1] (Y.flatMap id ++ P2 ++ ys.take c))
        case atStart => exact ⟨0, by omega, rfl, rfl, by rw [List.take_zero, List.append_nil]; exact HK1.out⟩
        case round =>
          clear HK HK1
          obtain ⟨c3, hc3, rfl, rfl, hkb⟩ := hrel
          have HK := Lib.hid hkb
          clear hkb
          by_cases hcl : c3 < ys.length
          case neg =>
            obtain rfl : c3 = ys.length := by omega
            rw [List.take_length] at HK
            go_wp2_with fail
            go_roundg (kn.loops.length - (i + 1))
            case measure => omega
            case rel => exact ⟨i + 1, by omega, rfl, by go_num, by rw [HN3.out, ← List.append_assoc]; exact HK.out⟩
          have hii := HIN.out _ HK.out.below
          obtain ⟨A9, c9, e, _, _, hr9⟩ := hii
          cases e
          obtain ⟨b9, o9, e, _, t0⟩ := ints_cell hr9 hcl
          cases e
          have HX9 : Hid (0 ≤ ys[c3] ∧ ys[c3] < (kn.loops.length : Int) ∧ (Y.flatMap id ++ P2 ++ ys.take c3).count ys[c3] = 0) := by
            obtain ⟨R, hR⟩ := HT3.out
            refine HT.out.at_ (R := ys.drop (c3 + 1) ++ R) ?_
            have e : ys = ys.take c3 ++ ys[c3] :: ys.drop (c3 + 1) := by rw [← List.drop_eq_getElem_cons hcl, List.take_append_drop]
            rw [hR]
            have e2 : Y.flatMap id ++ P2 ++ (ys ++ R) = Y.flatMap id ++ P2 ++ ((ys.take c3 ++ ys[c3] :: ys.drop (c3 + 1)) ++ R) := congrArg (fun z => (Y.flatMap id ++ P2) ++ (z ++ R)) e
            rw [e2]
            simp only [List.append_assoc, List.cons_append]
          have HNX : Hid (ys.take (c3 + 1) = ys.take c3 ++ [ys[c3]]) := List.take_succ_eq_append_getElem hcl
          have hlow := (HBI.out ys[c3] (List.getElem_mem hcl)).2
          obtain ⟨x0, x1, x2⟩ := HX9.out
          generalize ys[c3] = x at *
          obtain ⟨j, rfl⟩ : ∃ j : Nat, x = (j : Int) := ⟨x.toNat, by omega⟩
          have hj : j < kn.loops.length := by omega
          have y0 := HK.out.c.cell hj
          have y1 := Arr.free HK.out.c j
          have HS := Lib.hid (HK.out.set hj)
          rw [x2] at y0 HS
          generalize hPP : Y.flatMap id ++ P2 ++ ys.take c3 = PP at *
          have HPP := Lib.hid hPP
          clear hPP x0 x1 x2
          have hjj : ¬ (j : Int) ≥ (i : Int) := by omega
          go_wp2_with fail
          go_roundg (ys.length - (c3 + 1))
          case measure => omega
          case rel => exact ⟨c3 + 1, by omega, rfl, by go_num, by rw [HNX.out, ← List.append_assoc, HPP.out]; exact HS.out⟩
    obtain ⟨Ax, cx, tx, hva, hx1, hx2, hrd, hya, hyv⟩ := HXV.out a ha3
    have t0 := HK.out.t.cell hva
    unfold maxLen at hx2
    have HRD := Lib.hid hrd
    have HT2 : Hid (∃ R, allOf kn = (Y.take a).flatMap id ++ ((X.getD a []).flatMap id ++ R)) := by
      refine ⟨(Y.drop (a + 1)).flatMap id ++ Z.flatMap id, ?_⟩
      rw [HTT.out, flat_at hya, hyv]
      simp only [List.append_assoc]
    have HY2 : Hid ((Y.take (a + 1)).flatMap id = (Y.take a).flatMap id ++ (X.getD a []).flatMap id) := by show _ = _; rw [flat_take hya, hyv]
    clear hva hya hyv hrd
    generalize (Y.take a).flatMap id = P1 at *
    generalize X.getD a [] = xs at *
    go_wp2_with fail
    clear t0
    go_loopg [63] xs.length (fun gg ctr wr => ∃ b : Nat, b ≤ xs.length ∧ gg = xs.length - b ∧ ctr = .int .i64 b ∧ KB w3 wr w3.heap.size kn.loops.length [.slice Ao kn.loose.length co] [.slice Af kn.front.length cf, .slice Ab kn.back.length cb, .slice (some ⟨w3.heap.size + 1, 0, none⟩) 1 1] (P1 ++ (xs.take b).flatMap id))
    case atStart => exact ⟨0, by omega, rfl, rfl, by rw [List.take_zero, List.flatMap_nil, List.append_nil]; exact HK.out⟩
    case round =>
      clear HK
      obtain ⟨b, hb', rfl, rfl, hkb⟩ := hrel
      have HK := Lib.hid hkb
      clear hkb
      by_cases hbl : b < xs.length
      case neg =>
        obtain rfl : b = xs.length := by omega
        rw [List.take_length] at HK
        go_wp2_with fail
        go_roundg (3 - (a + 1))
        case measure => omega
        case rel => exact ⟨a + 1, by omega, rfl, by go_num, by rw [HY2.out]; exact HK.out⟩
      obtain ⟨hrow, hin⟩ := HRD.out _ _ HK.out
      obtain ⟨bb, oo, e, _, t0⟩ := list_cell hrow hbl
      cases e
      have HIN : Hid (∀ wr P, KB w3 wr w3.heap.size kn.loops.length [.slice Ao kn.loose.length co] [.slice Af kn.front.length cf, .slice Ab kn.back.length cb, .slice (some ⟨w3.heap.size + 1, 0, none⟩) 1 1] (P) → Ints wr (fun _ => True) (tx b) (xs.getD b [])) := fun wr P hk => (HRD.out wr P hk).2 b hbl
      obtain ⟨At, ct, et, g3, g4, _⟩ := hin b hbl
      have hin2 := hin b hbl
      rw [et] at t0 HIN
      unfold maxLen at g4
      have HT3 : Hid (∃ R, allOf kn = (P1 ++ (xs.take b).flatMap id) ++ (xs.getD b [] ++ R)) := by
        obtain ⟨R, hR⟩ := HT2.out
        refine ⟨(xs.drop (b + 1)).flatMap id ++ R, ?_⟩
        have : xs.getD b [] = xs[b] := by simp [hbl]
        rw [hR, flat_at hbl, this]
        simp only [List.append_assoc]
      have HN3 : Hid ((xs.take (b + 1)).flatMap id = (xs.take b).flatMap id ++ xs.getD b []) := by
        show _ = _
        have : xs.getD b [] = xs[b] := by simp [hbl]
        rw [flat_take hbl, this]
      clear hin hin2 et hrow
      generalize xs.getD b [] = ys at *
      generalize (xs.take b).flatMap id = P2 at *
      go_wp2_with fail
      clear t0
      go_loopg [69] ys.length (fun gg ctr wr => ∃ c : Nat, c ≤ ys.length ∧ gg = ys.length - c ∧ ctr = .int .i64 c ∧ KB w3 wr w3.heap.size kn.loops.length [.slice Ao kn.loose.length co] [.slice Af kn.front.length cf, .slice Ab kn.back.length cb, .slice (some ⟨w3.heap.size + 1, 0, none⟩) 1 1] (P1 ++ P2 ++ ys.take c))
      case atStart => exact ⟨0, by omega, rfl, rfl, by rw [List.take_zero, List.append_nil]; exact HK.out⟩
      case round =>
        clear HK
        obtain ⟨c3, hc3, rfl, rfl, hkb⟩ := hrel
        have HK := Lib.hid hkb
        clear hkb
        by_cases hcl : c3 < ys.length
        case neg =>
          obtain rfl : c3 = ys.length := by omega
          rw [List.take_length] at HK
          go_wp2_with fail
          go_roundg (xs.length - (b + 1))
          case measure => omega
          case rel => exact ⟨b + 1, by omega, rfl, by go_num, by rw [HN3.out, ← List.append_assoc]; exact HK.out⟩
        have hii := HIN.out _ _ HK.out
        obtain ⟨A9, c9, e, _, _, hr9⟩ := hii
        cases e
        obtain ⟨b9, o9, e, _, t0⟩ := ints_cell hr9 hcl
        cases e
        have HX9 : Hid (0 ≤ ys[c3] ∧ ys[c3] < (kn.loops.length : Int) ∧ (P1 ++ P2 ++ ys.take c3).count ys[c3] = 0) := by
          obtain ⟨R, hR⟩ := HT3.out
          refine HT.out.at_ (R := ys.drop (c3 + 1) ++ R) ?_
          have e : ys = ys.take c3 ++ ys[c3] :: ys.drop (c3 + 1) := by rw [← List.drop_eq_getElem_cons hcl, List.take_append_drop]
          rw [hR]
          have e2 := congrArg (fun z => (P1 ++ P2) ++ (z ++ R)) e
          have e3 : P1 ++ P2 ++ (ys ++ R) = P1 ++ P2 ++ ((ys.take c3 ++ ys[c3] :: ys.drop (c3 + 1)) ++ R) := e2
          rw [e3]
          simp only [List.append_assoc, List.cons_append]
        have HNX : Hid (ys.take (c3 + 1) = ys.take c3 ++ [ys[c3]]) := List.take_succ_eq_append_getElem hcl
        obtain ⟨x0, x1, x2⟩ := HX9.out
        generalize ys[c3] = x at *
        obtain ⟨j, rfl⟩ : ∃ j : Nat, x = (j : Int) := ⟨x.toNat, by omega⟩
        have hj : j < kn.loops.length := by omega
        have y0 := HK.out.c.cell hj
        have y1 := Arr.free HK.out.c j
        have HS := Lib.hid (HK.out.set hj)
        rw [x2] at y0 HS
        generalize hPP : P1 ++ P2 ++ ys.take c3 = PP at *
        have HPP := Lib.hid hPP
        clear hPP x0 x1 x2
        have hjj : ¬ (j : Int) ≥ (kn.loops.length : Int) := by omega
        go_wp2_with fail
        go_roundg (ys.length - (c3 + 1))
        case measure => omega
        case rel => exact ⟨c3 + 1, by omega, rfl, by go_num, by rw [HNX.out, ← List.append_assoc, HPP.out]; exact HS.out⟩
end Go.Proofs.Ytaacfjeddoekfaa
