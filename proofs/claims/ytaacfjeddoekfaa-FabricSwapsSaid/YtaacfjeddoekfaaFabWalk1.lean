/- Chapter 12: the program's closures and its sorted. -/
import Derived.Test.YtaacfjeddoekfaaKnitWalk10
import Derived.Test.YtaacfjeddoekfaaKnitBuild
import Derived.Test.YtaacfjeddoekfaaSortWalk5
import Derived.Test.YtaacfjeddoekfaaFabPlain2
namespace Go.Proofs.Ytaacfjeddoekfaa
open Go.RowKit
set_option linter.unusedVariables false
set_option linter.unusedSimpArgs false

theorem IR_new (w : World) (n : Nat) (hn : n ≤ maxLen) : IR (w.alloc (.cells (madeCells #[.int .i64 0] n) 3)) w.heap.size w.heap.size n n (fun _ => 0) := by
  have h := World.ownsRow_lit (base := w.heap.size) (e := 3) (size := 1) w (madeCells #[.int .i64 0] n) n (Nat.le_refl _) hn (by rw [size_madeCells, Nat.mul_one])
  have e : (madeCells #[.int .i64 0] n).toList = fRow (fun _ => 0) n := by
    apply List.ext_getElem?
    intro m
    by_cases hm : m < n
    · rw [fRow_get _ hm]; unfold madeCells; simp [hm, Nat.mod_one]
    · rw [List.getElem?_eq_none (by rw [Array.length_toList, size_madeCells]; omega), List.getElem?_eq_none (by simp [fRow]; omega)]
  rw [e] at h
  exact h

theorem ints_fRow (f : Nat → Int) (n : Nat) : ints ((List.range n).map f) = fRow f n := by
  unfold ints fRow
  rw [List.map_map]
  rfl
theorem IR.ints {w : World} {base g cap n : Nat} {f : Nat → Int} (h : IR w base g cap n f) : Ints w (fun b => base ≤ b ∧ b < w.heap.size) (.slice (some ⟨g, 0, none⟩) n cap) ((List.range n).map f) := by
  refine Ints.of_own (n := n) (e := 3) ?_
  have := ints_fRow f n
  unfold Go.Proofs.Ytaacfjeddoekfaa.ints at this
  rw [this]
  exact h

/-! ### the comparison that sorted hands over -/
def keyC (ls : List Lop) (x : Int) : Int := (ls.getD x.toNat noLop).car
theorem enters55 (args : Array Value) (w : World) : (callFunc 55 args).run Try.prog w = .ok (.enter 55 args) w := by
  have h1 : Try.f55.name ≠ "runtime.NumGoroutine" := by
    have : (Try.f55.name == "runtime.NumGoroutine") = false := by kernel_rfl
    simpa using this
  have h2 : Try.f55.body.isSome = true := by kernel_rfl
  obtain ⟨c, hc⟩ := Option.isSome_iff_exists.1 h2
  have h3 : Try.prog.funcs[55]? = some Try.f55 := by kernel_rfl
  simp [callFunc, h3, h1, hc, mark]
theorem cmp55_any {S : Nat → Prop} {vl : Value} {ls : List Lop} {B : Nat} (x y : Int) (w : World) (hl : LoopsRd w S vl ls) (hB : w.cell? ⟨B, 0, none⟩ = some vl) (hcar : ∀ l ∈ ls, 0 ≤ l.car ∧ l.car ≤ 7)
    (x0 : 0 ≤ x) (x1 : x < ls.length) (y0 : 0 ≤ y) (y1 : y < ls.length) :
    Calls Try.prog 55 #[.int .i64 x, .int .i64 y, .pointer (some ⟨B, 0, none⟩)] w fun e w' => e = .returned (.int .i64 (keyC ls x - keyC ls y)) ∧ ∃ k, w' = w.drewN k := by
  obtain ⟨A, c, tv, rfl, h1, h2, hr, _⟩ := hl
  obtain ⟨i, rfl⟩ : ∃ i : Nat, x = (i : Int) := ⟨x.toNat, by omega⟩
  obtain ⟨j, rfl⟩ : ∃ j : Nat, y = (j : Int) := ⟨y.toNat, by omega⟩
  have hi : i < ls.length := by omega
  have hj : j < ls.length := by omega
  have hmem : ∀ i, i < ls.length → 0 ≤ (ls.getD i noLop).car ∧ (ls.getD i noLop).car ≤ 7 := fun i hi => by
    rw [List.getD_eq_getElem?_getD, List.getElem?_eq_getElem hi]
    exact hcar _ (List.getElem_mem hi)
  have hci := hmem i hi
  have hcj := hmem j hj
  obtain ⟨b, o, e, _, u0, _⟩ := loop_cells hr hi
  cases e
  obtain ⟨b', o', e, _, v0, _⟩ := loop_cells hr hj
  cases e
  unfold keyC
  rw [Int.toNat_natCast, Int.toNat_natCast]
  generalize (ls.getD i noLop).car = p at *
  generalize (ls.getD j noLop).car = q at *
  clear hr hmem hcar
  unfold maxLen at h2
  go_enter Try.func55, Try.ntmps55
  go_wp2_with (go_quiet (fail))
  go_ret
  exact ⟨rfl, _, rfl⟩
theorem cmp_cars {vl : Value} {ls : List Lop} {B base : Nat} {w0 : World} (hl : LoopsRd w0 (fun b => b < base) vl ls) (hB : w0.cell? ⟨B, 0, none⟩ = some vl) (hBb : B < base) (hb : base ≤ w0.heap.size) (hcar : ∀ l ∈ ls, 0 ≤ l.car ∧ l.car ≤ 7) :
    Cmp w0 base ls.length (.func (.func 55) #[] #[.pointer (some ⟨B, 0, none⟩)]) (keyC ls) := by
  refine ⟨55, #[.pointer (some ⟨B, 0, none⟩)], fun x y => keyC ls x - keyC ls y, rfl, enters55, fun x y _ _ _ _ => (by show keyC ls x - keyC ls y < 0 ↔ _; omega), fun W x y hW x0 x1 y0 y1 => ?_⟩
  exact cmp55_any x y W (hl.same (Same.of_below hW)) ((hW.cell (p := ⟨B, 0, none⟩) hBb).trans hB) hcar x0 x1 y0 y1

/-! ### sorting nothing -/
theorem insertion_none (w : World) (cv : Value) : Calls Try.prog 72 #[.slice none 0 0, .int .i64 0, .int .i64 0, cv] w fun e w' => e = .returned (.tuple #[]) ∧ w' = w := by
  go_enter Try.func72, Try.ntmps72
  go_wp2_with fail
  go_loopg [8] 0 (fun gg ctr wr => ctr = .int .i64 1 ∧ gg = 0 ∧ wr = w)
  case atStart => exact ⟨rfl, rfl, rfl⟩
  case round =>
    obtain ⟨rfl, rfl, rfl⟩ := hrel
    go_wp2_with fail
    go_end0
    exact ⟨rfl, rfl⟩
theorem stable_none (w : World) (cv : Value) : Calls Try.prog 60 #[.slice none 0 0, .int .i64 0, cv] w fun e w' => e = .returned (.tuple #[]) ∧ w' = w := by
  go_enter Try.func60, Try.ntmps60
  go_wp2_with fail
  go_loopg [7, 8] 0 (fun gg a b wr => a = .int .i64 0 ∧ b = .int .i64 20 ∧ gg = 0 ∧ wr = w)
  case atStart => exact ⟨rfl, rfl, rfl, rfl⟩
  case round =>
    obtain ⟨rfl, rfl, rfl, rfl⟩ := hrel
    go_wp2_with fail
    refine (insertion_none _ _).mono ?_
    rintro e w' ⟨rfl, rfl⟩
    go_wp2_with fail
    go_loopg [6, 7, 8] 0 (fun gg a b c wr => a = .int .i64 20 ∧ b = .int .i64 0 ∧ c = .int .i64 20 ∧ gg = 0 ∧ wr = w')
    case atStart => exact ⟨rfl, rfl, rfl, rfl, rfl⟩
    case round =>
      obtain ⟨rfl, rfl, rfl, rfl, rfl⟩ := hrel
      go_wp2_with fail
      go_end0
      exact ⟨rfl, rfl⟩
theorem sort_none (w : World) (cv : Value) : Calls Try.prog 54 #[.slice none 0 0, cv] w fun e w' => e = .returned (.tuple #[]) ∧ w' = w := by
  go_enter Try.func54, Try.ntmps54
  go_wp2_with fail
  refine (stable_none _ _).mono ?_
  rintro e w' ⟨rfl, rfl⟩
  go_wp2_with fail
  go_end0
  exact ⟨rfl, rfl⟩

/-! ### loops renamed -/
set_option maxHeartbeats 1000000 in
theorem renamed_any {S T : Nat → Prop} {lv tv : Value} {l ts : List Int} {B : Nat} (w : World) (hl : Ints w S lv l) (ht : Ints w T tv ts) (hS : ∀ b, S b → b < w.heap.size) (hT : ∀ b, T b → b < w.heap.size) (hB : w.cell? ⟨B, 0, none⟩ = some tv) (hBl : B < w.heap.size)
    (hlow : ∀ x ∈ l, 0 ≤ x ∧ x < (ts.length : Int)) (hn : l.length ≤ 1000000) :
    Calls Try.prog 34 #[lv, .pointer (some ⟨B, 0, none⟩)] w fun e w' => ∃ u, e = .returned u ∧ w'.ownsRow w.heap.size 3 1 u l.length (ints (l.map fun x => ts.getD x.toNat 0)) ∧ Below w.heap.size w w' := by
  have HLOW := Lib.hid hlow
  clear hlow
  obtain ⟨A, c, rfl, h1, h2, hr⟩ := hl
  obtain ⟨At, ct, rfl, g1, g2, hq⟩ := ht
  have HR := Lib.hid hr
  have HQ := Lib.hid hq
  have HS := Lib.hid hS
  have HT := Lib.hid hT
  have HBC := Lib.hid hB
  have HBL := Lib.hid hBl
  clear hr hq hB hS hT hBl
  unfold maxLen at h2 g2
  go_enter Try.func34, Try.ntmps34
  go_wp2_with fail
  go_loopg [4, 9] l.length (fun gg out ctr wr => ∃ i : Nat, i ≤ l.length ∧ gg = l.length - i ∧ ctr = .int .i64 i ∧ wr.ownsRow w.heap.size 3 1 out i (ints ((l.take i).map fun x => ts.getD x.toNat 0)) ∧ Below w.heap.size w wr)
  case atStart => exact ⟨0, by omega, rfl, rfl, World.ownsRow_nil _ _ _ _, Below.refl _ _⟩
  case round =>
    obtain ⟨i, hi, rfl, rfl, ho, hb⟩ := hrel
    have HO := Lib.hid ho
    have HB := Lib.hid hb
    clear ho hb
    by_cases hlt : i < l.length
    case neg =>
      obtain rfl : i = l.length := by omega
      rw [List.take_length] at HO
      go_wp2_with fail
      go_ret
      exact ⟨_, rfl, HO.out, HB.out⟩
    obtain ⟨b, o, e, hb, x0⟩ := ints_cell (HR.out.same (w' := wr) fun b hb => HB.out.block b (HS.out b hb)) hlt
    cases e
    have hx := HLOW.out _ (List.getElem_mem hlt)
    have HN : Hid ((l.take (i + 1)).map (fun x => ts.getD x.toNat 0) = (l.take i).map (fun x => ts.getD x.toNat 0) ++ [ts.getD l[i].toNat 0]) := by
      show _ = _
      rw [List.take_succ_eq_append_getElem hlt, List.map_append]; rfl
    generalize l[i] = x at *
    obtain ⟨m, rfl⟩ : ∃ m : Nat, x = (m : Int) := ⟨x.toNat, by omega⟩
    have hm : m < ts.length := by omega
    rw [Int.toNat_natCast] at HN
    obtain ⟨b', o', e, hb', y0⟩ := ints_cell (HQ.out.same (w' := wr) fun b hb => HB.out.block b (HT.out b hb)) hm
    cases e
    have e2 : ts.getD m 0 = ts[m] := by rw [List.getD_eq_getElem?_getD, List.getElem?_eq_getElem hm]; rfl
    rw [e2] at HN
    generalize ts[m] = y at *
    have z0 := (HB.out.cell (p := ⟨B, 0, none⟩) HBL.out).trans HBC.out
    generalize (l.take i).map (fun x => ts.getD x.toNat 0) = L at *
    clear e2
    go_wp2_with (at_builtin
                 refine app_el T25 [.int .i64 y] HO.out HB.out (Nat.le_refl _) rfl rfl rfl rfl rfl ?_ ?_ ?_
                 rotate_right
                 intro v1 w1 hown1 hb1 hg1 ho1
                 have HF := Lib.hid (And.intro hown1 hb1)
                 clear hown1 hb1 hg1 ho1)
    case refine_1 => simp [Value.oneCell']
    case refine_2 => omega
    go_roundg (l.length - (i + 1))
    case measure => omega
    case rel => exact ⟨i + 1, by omega, rfl, by go_num, by rw [HN.out, ints_app]; exact HF.out.1, HF.out.2⟩
end Go.Proofs.Ytaacfjeddoekfaa
