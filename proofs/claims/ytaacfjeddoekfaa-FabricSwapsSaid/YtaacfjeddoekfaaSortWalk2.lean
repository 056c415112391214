/- Sorting in place: insertion. -/
import Derived.Test.YtaacfjeddoekfaaSortWalk1
import Derived.Test.YtaacfjeddoekfaaSortPlain2
import Derived.Test.YtaacfjeddoekfaaSeq
import Derived.IntWalk
namespace Go.Proofs.Ytaacfjeddoekfaa
open Go.RowKit
set_option linter.unusedVariables false

/-- cv compares by the key, wherever what lay below base lies as in w0 -/
def Cmp (w0 : World) (base N : Nat) (cv : Value) (key : Int → Int) : Prop := ∃ (fc : FuncId) (lb : Array Value) (cf : Int → Int → Int), cv = .func (.func fc) #[] lb ∧ (∀ (args : Array Value) (w : World), (callFunc fc args).run Try.prog w = .ok (.enter fc args) w) ∧ (∀ x y : Int, 0 ≤ x → x < N → 0 ≤ y → y < N → (cf x y < 0 ↔ key x < key y)) ∧
  ∀ (W : World) (x y : Int), Below base w0 W → 0 ≤ x → x < N → 0 ≤ y → y < N → Calls Try.prog fc (#[.int .i64 x, .int .i64 y] ++ lb) W fun e W' => e = .returned (.int .i64 (cf x y)) ∧ ∃ k, W' = W.drewN k

/-- the row's places [a, b) are in order -/
def SrtTo (w w' : World) (base g cap n : Nat) (key : Int → Int) (f : Nat → Int) (a b : Nat) : Prop := ∃ h, Srt w w' base g cap n h ∧ Rear f h a b ∧ Sd key h a b

theorem Srt.below {w0 a b : World} {base g cap n : Nat} {f : Nat → Int} (h : Srt a b base g cap n f) (hb : Below base w0 a) (hg : base ≤ g) : Below base w0 b :=
  ⟨h.1.os.trans hb.os, h.1.tape.trans hb.tape, h.1.output.trans hb.output, Nat.le_trans hb.size h.1.size, fun k hk => by
    by_cases hl : k < a.heap.size
    · exact (h.1.block k hl (by intro e; injection e with e; omega)).trans (hb.block k hk)
    · have e1 := hb.block k hk
      have h1 : b.heap[k]? = none := Array.getElem?_eq_none (by have := h.2.1; omega)
      have h2 : a.heap[k]? = none := Array.getElem?_eq_none (by omega)
      rw [h1, ← e1, h2]⟩

set_option maxHeartbeats 2000000 in
theorem insertion_any {base g cap n N : Nat} {f : Nat → Int} {key : Int → Int} {w0 : World} (a b : Nat) {cv : Value} (w : World) (h : IR w base g cap n f) (hC : Cmp w0 base N cv key) (hw : Below base w0 w) (hab : a ≤ b) (hbn : b ≤ n) (hnb : n ≤ 4611686018427387904)
    (hasc : Asc f a b) (hran : ∀ k, k < n → 0 ≤ f k ∧ f k < N) :
    Calls Try.prog 72 #[.slice (some ⟨g, 0, none⟩) n cap, .int .i64 a, .int .i64 b, cv] w fun e w' => e = .returned (.tuple #[]) ∧ SrtTo w w' base g cap n key f a b := by
  obtain ⟨fc, lb, cf, rfl, heg, hcf, hcall⟩ := hC
  obtain ⟨hc1, hc2⟩ := h.caps
  have hbg := h.le.1
  unfold maxLen at hc2
  have H := Lib.hid h
  have HCF := Lib.hid hcf
  have HCALL := Lib.hid hcall
  have HW := Lib.hid hw
  have HASC := Lib.hid hasc
  have HRAN := Lib.hid hran
  clear h hcf hcall hw hasc hran
  go_enter Try.func72, Try.ntmps72
  go_wp2_with fail
  go_loopg [8] (b - (a + 1)) (fun gg si wr => ∃ (i : Nat) (h : Nat → Int), a < i ∧ (i ≤ b ∨ i = a + 1) ∧ gg = b - i ∧ si = .int .i64 i ∧ Srt w wr base g cap n h ∧ Rear f h a i ∧ Rear f h a b ∧ Sd key h a i)
  case atStart => exact ⟨a + 1, f, by omega, .inr rfl, rfl, rfl, Srt.refl H.out, .refl _ _ _, .refl _ _ _, .small _ (Nat.le_refl _)⟩
  case round =>
    obtain ⟨i, h, hai, hib, rfl, rfl, hs, hr1, hr2, hsd⟩ := hrel
    have HS := Lib.hid hs
    have HR1 := Lib.hid hr1
    have HR2 := Lib.hid hr2
    have HSD := Lib.hid hsd
    clear hs hr1 hr2 hsd
    by_cases hlt : i < b
    case neg =>
      go_wp2_with fail
      go_end0
      exact ⟨rfl, h, HS.out, HR2.out, HSD.out.mono (Nat.le_refl _) (by omega)⟩
    have HX : Hid (0 ≤ h i ∧ h i < N) := by
      show _ ∧ _
      rw [HR1.out.out (.inr (Nat.le_refl _))]; exact HRAN.out i (by omega)
    have HI : Hid (Ins key f h a i i (h i)) := Ins.start HASC.out HSD.out HR1.out (by omega) hlt
    generalize h i = x at *
    go_wp2_with fail
    go_loopg [9] i (fun gg sj wr => ∃ (j : Nat) (h' : Nat → Int), a ≤ j ∧ j ≤ i ∧ j = gg ∧ sj = .int .i64 j ∧ Srt w wr base g cap n h' ∧ Ins key f h' a i j x)
    case atStart => exact ⟨i, h, by omega, Nat.le_refl _, rfl, rfl, HS.out, HI.out⟩
    case round =>
      clear HS HR1 HR2 HSD HI
      obtain ⟨j, h', haj, hji, rfl, rfl, hs, hi⟩ := hrel
      have HS := Lib.hid hs
      have HI := Lib.hid hi
      clear hs hi
      have HY : Hid (a < j → 0 ≤ h' (j - 1) ∧ h' (j - 1) < N) := fun hj => by
        obtain ⟨k, k1, k2, e⟩ := HI.out.rear.in_ (show a ≤ j - 1 by omega) (show j - 1 < i + 1 by omega)
        rw [e]; exact HRAN.out k (by omega)
      have hcs : (a < j ∧ key x < key (h' (j - 1))) ∨ (a < j ∧ ¬ key x < key (h' (j - 1))) ∨ j = a := by omega
      rcases hcs with ⟨hj, hk⟩ | ⟨hj, hk⟩ | hj
      · have HN := Lib.hid (HI.out.step hj hji hk)
        have HSW := HS.out.swapN (i := j) (j := j - 1) (by omega) (by omega)
        rw [HI.out.at_] at HSW
        have HSW := Lib.hid HSW
        have x0 := HS.out.2.2.cell (k := j) (by omega)
        have x1 := HS.out.2.2.cell (k := j - 1) (by omega)
        rw [HI.out.at_] at x0
        have hcmp : decide (cf x (h' (j - 1)) < 0) = true := by
          rw [decide_eq_true_eq, HCF.out _ _ HX.out.1 HX.out.2 (HY.out hj).1 (HY.out hj).2]; exact hk
        have HCL : Hid (∀ m, Calls Try.prog fc (#[.int .i64 x, .int .i64 (h' (j - 1))] ++ lb) (wr.drewN m) fun e W' => e = .returned (.int .i64 (cf x (h' (j - 1)))) ∧ ∃ k, W' = (wr.drewN m).drewN k) := fun m => HCALL.out _ _ _ (below_dN (HS.out.below HW.out hbg)) HX.out.1 HX.out.2 (HY.out hj).1 (HY.out hj).2
        clear hk
        generalize h' (j - 1) = y at *
        have hdj : decide (a < j) = true := by simpa using hj
        have hw1 : IntKind.i64.wrap ((j : Int) - 1) = (j : Int) - 1 := IntWalk.i64_in _ (by omega)
        have ia1 := fun w => idx_at (g := g) (c := cap) (x := (j : Int) - 1) (i := j - 1) (n := n) (by omega) (by omega) w
        have ia0 := fun w => idx_at (g := g) (c := cap) (x := (j : Int)) (i := j) (n := n) rfl (by omega) w
        go_wp2_with fail
        refine wp_region_seq (fun w' => ∃ k, w' = wr.drewN k) (by kernel_rfl) (by kernel_rfl) ⟨1, rfl⟩ ?_
        show Seq _ _ _ _ [_, _, _, _, _, _, _, _, _, _, _, _, _, _, _, _, _] _
        repeat (first
          | (refine seq_skip (by rfl) ?_; (try simp only [Act.put, List.setIfInBounds_toArray, List.set_cons_zero, List.set_cons_succ]))
          | (refine seq_val ?_ (by rfl) ?_ ?_
             rotate_left 1
             · rintro w5 ⟨k5, rfl⟩; go_simp; first | done | with_reducible rfl
             (try simp only [Act.put, List.setIfInBounds_toArray, List.set_cons_zero, List.set_cons_succ]))
          | (refine seq_call ?_ ?_ ?_ (by rfl) ?_ ?_ ?_
             rotate_left 3
             · rintro w5 ⟨k5, rfl⟩; go_simp; (refine And.intro ?_ ?_ <;> rfl)
             · rintro w5 ⟨k5, rfl⟩
               refine Calls.mono (HCL.out k5) ?_
               rintro e W' ⟨rfl, m5, rfl⟩
               refine And.intro ?_ ⟨k5 + m5, World.drewN_drewN _ _ _⟩
               rfl
             (try simp only [Act.put, List.setIfInBounds_toArray, List.set_cons_zero, List.set_cons_succ])))
        refine seq_end ?_
        rintro w7 ⟨k7, rfl⟩
        have z0 := HS.out.2.2.free j
        have z1 := HS.out.2.2.free (j - 1)
        go_wp2_with fail
        go_region
        go_wp2_with fail
        go_roundg (j - 1)
        case measure => omega
        case rel => exact ⟨j - 1, _, by omega, by omega, rfl, by show Value.int .i64 _ = _; congr 1; omega, HSW.out _, HN.out⟩
      · have HST := Lib.hid (HI.out.stop haj hji (fun _ => hk))
        have x0 := HS.out.2.2.cell (k := j) (by omega)
        have x1 := HS.out.2.2.cell (k := j - 1) (by omega)
        rw [HI.out.at_] at x0
        have hcmp : decide (cf x (h' (j - 1)) < 0) = false := by
          rw [decide_eq_false_iff_not, HCF.out _ _ HX.out.1 HX.out.2 (HY.out hj).1 (HY.out hj).2]; exact hk
        have HCL : Hid (∀ m, Calls Try.prog fc (#[.int .i64 x, .int .i64 (h' (j - 1))] ++ lb) (wr.drewN m) fun e W' => e = .returned (.int .i64 (cf x (h' (j - 1)))) ∧ ∃ k, W' = (wr.drewN m).drewN k) := fun m => HCALL.out _ _ _ (below_dN (HS.out.below HW.out hbg)) HX.out.1 HX.out.2 (HY.out hj).1 (HY.out hj).2
        clear hk
        generalize h' (j - 1) = y at *
        have hdj : decide (a < j) = true := by simpa using hj
        have hw1 : IntKind.i64.wrap ((j : Int) - 1) = (j : Int) - 1 := IntWalk.i64_in _ (by omega)
        have ia1 := fun w => idx_at (g := g) (c := cap) (x := (j : Int) - 1) (i := j - 1) (n := n) (by omega) (by omega) w
        have ia0 := fun w => idx_at (g := g) (c := cap) (x := (j : Int)) (i := j) (n := n) rfl (by omega) w
        go_wp2_with fail
        refine wp_region_seq (fun w' => ∃ k, w' = wr.drewN k) (by kernel_rfl) (by kernel_rfl) ⟨1, rfl⟩ ?_
        show Seq _ _ _ _ [_, _, _, _, _, _, _, _, _, _, _, _, _, _, _, _, _] _
        repeat (first
          | (refine seq_skip (by rfl) ?_; (try simp only [Act.put, List.setIfInBounds_toArray, List.set_cons_zero, List.set_cons_succ]))
          | (refine seq_val ?_ (by rfl) ?_ ?_
             rotate_left 1
             · rintro w5 ⟨k5, rfl⟩; go_simp; first | done | with_reducible rfl
             (try simp only [Act.put, List.setIfInBounds_toArray, List.set_cons_zero, List.set_cons_succ]))
          | (refine seq_call ?_ ?_ ?_ (by rfl) ?_ ?_ ?_
             rotate_left 3
             · rintro w5 ⟨k5, rfl⟩; go_simp; (refine And.intro ?_ ?_ <;> rfl)
             · rintro w5 ⟨k5, rfl⟩
               refine Calls.mono (HCL.out k5) ?_
               rintro e W' ⟨rfl, m5, rfl⟩
               refine And.intro ?_ ⟨k5 + m5, World.drewN_drewN _ _ _⟩
               rfl
             (try simp only [Act.put, List.setIfInBounds_toArray, List.set_cons_zero, List.set_cons_succ])))
        refine seq_end ?_
        rintro w7 ⟨k7, rfl⟩
        go_wp2_with fail
        go_roundg (b - (i + 1))
        case measure => omega
        case rel => exact ⟨i + 1, h', by omega, .inl (by omega), rfl, by go_num, HS.out.dN _, HI.out.rear, HI.out.rear.mono (Nat.le_refl _) (by omega), HST.out⟩
      · have HST := Lib.hid (HI.out.stop haj hji (fun h => absurd h (by omega)))
        have hdj : decide (a < j) = false := by simp; omega
        clear hj
        go_wp2_with fail
        refine wp_region_seq (fun w' => ∃ k, w' = wr.drewN k) (by kernel_rfl) (by kernel_rfl) ⟨1, rfl⟩ ?_
        show Seq _ _ _ _ [_, _, _, _, _, _, _, _, _, _, _, _, _, _, _, _, _] _
        repeat (first
          | (refine seq_skip (by rfl) ?_; (try simp only [Act.put, List.setIfInBounds_toArray, List.set_cons_zero, List.set_cons_succ]))
          | (refine seq_val ?_ (by rfl) ?_ ?_
             rotate_left 1
             · rintro w5 ⟨k5, rfl⟩; go_simp; first | done | with_reducible rfl
             (try simp only [Act.put, List.setIfInBounds_toArray, List.set_cons_zero, List.set_cons_succ]))
          | (refine seq_call ?_ ?_ ?_ (by rfl) ?_ ?_ ?_
             rotate_left 3
             · rintro w5 ⟨k5, rfl⟩; go_simp; (refine And.intro ?_ ?_ <;> rfl)
             · rintro w5 ⟨k5, rfl⟩
               refine Calls.mono (HCL.out k5) ?_
               rintro e W' ⟨rfl, m5, rfl⟩
               refine And.intro ?_ ⟨k5 + m5, World.drewN_drewN _ _ _⟩
               rfl
             (try simp only [Act.put, List.setIfInBounds_toArray, List.set_cons_zero, List.set_cons_succ])))
        refine seq_end ?_
        rintro w7 ⟨k7, rfl⟩
        go_wp2_with fail
        go_roundg (b - (i + 1))
        case measure => omega
        case rel => exact ⟨i + 1, h', by omega, .inl (by omega), rfl, by go_num, HS.out.dN _, HI.out.rear, HI.out.rear.mono (Nat.le_refl _) (by omega), HST.out⟩
end Go.Proofs.Ytaacfjeddoekfaa
