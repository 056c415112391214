/- Sorting in place: the row in memory; exchanges. -/
import Derived.Test.YtaacfjeddoekfaaSortPlain
import Derived.Laws.OwnMore
import Derived.Deep.QuietTactic
import Derived.BigQuiet
import Derived.BigRegion
import Derived.RegionTactic
import Derived.Deep.LoopGhost
import Derived.Deep.DeepCutAuto
namespace Go.Proofs.Ytaacfjeddoekfaa
open Go.RowKit
set_option linter.unusedVariables false

def fRow (f : Nat → Int) (n : Nat) : List Value := (List.range n).map fun k => Value.int .i64 (f k)
theorem fRow_get (f : Nat → Int) {n k : Nat} (h : k < n) : (fRow f n)[k]? = some (.int .i64 (f k)) := by simp [fRow, h]
theorem fRow_set (f : Nat → Int) (n k : Nat) (x : Int) : (fRow f n).set k (.int .i64 x) = fRow (fun j => if j = k then x else f j) n := by
  unfold fRow
  apply List.ext_getElem
  · simp
  · intro j h1 h2
    simp only [List.length_set, List.length_map, List.length_range] at h1
    rw [List.getElem_set]
    by_cases h : k = j
    · subst h; simp
    · rw [if_neg h]; simp [Ne.symm h]
/-- the row of block g holds f, in n places -/
def IR (w : World) (base g cap n : Nat) (f : Nat → Int) : Prop := w.ownsRow base 3 1 (.slice (some ⟨g, 0, none⟩) n cap) n (fRow f n)
section
variable {w w' : World} {base g cap n : Nat} {f : Nat → Int}
theorem IR.cell (h : IR w base g cap n f) {k : Nat} (hk : k < n) : w.cell? ⟨g, k, none⟩ = some (.int .i64 (f k)) := by
  rw [World.ownsRow.cellAt h k (by omega), fRow_get f hk]
theorem IR.free (h : IR w base g cap n f) (k : Nat) : w.frozen? ⟨g, k, none⟩ = false := World.ownsRow.frozenAt h k
theorem IR.drew (h : IR w base g cap n f) : IR w.drew base g cap n f := World.ownsRow.drew h
theorem IR.dN (h : IR w base g cap n f) (k : Nat) : IR (w.drewN k) base g cap n f := own_dN h
theorem IR.le (h : IR w base g cap n f) : base ≤ g ∧ g < w.heap.size := World.ownsRow.lt h g rfl
theorem IR.caps (h : IR w base g cap n f) : n ≤ cap ∧ cap ≤ maxLen := by
  obtain ⟨A, c, e, h1, h2⟩ := own_form h
  cases e
  exact ⟨h1, h2⟩
theorem IR.set (h : IR w base g cap n f) {k : Nat} (hk : k < n) (x : Int) : IR (w.setCell ⟨g, k, none⟩ (.int .i64 x)) base g cap n (fun j => if j = k then x else f j) := by
  have := World.ownsRow.stored h k (.int .i64 x)
  rw [fRow_set] at this
  exact this.1
theorem IR.congr {f' : Nat → Int} (h : IR w base g cap n f) (e : ∀ k, k < n → f k = f' k) : IR w base g cap n f' := by
  have : fRow f n = fRow f' n := by
    unfold fRow
    refine List.map_congr_left fun k hk => ?_
    rw [e k (by simpa using hk)]
  unfold IR at *
  rwa [this] at h
theorem IR.swap (h : IR w base g cap n f) {i j : Nat} (hi : i < n) (hj : j < n) : IR ((w.setCell ⟨g, i, none⟩ (.int .i64 (f j))).setCell ⟨g, j, none⟩ (.int .i64 (f i))) base g cap n (swp f i j) := by
  refine ((h.set hi (f j)).set hj (f i)).congr fun k hk => ?_
  unfold swp
  by_cases h1 : k = i
  · subst h1
    by_cases h2 : k = j
    · subst h2; simp
    · simp [h2]
  · simp [h1]
theorem IR.kept {base' : Nat} (h : IR w base g cap n f) (hb : Below w.heap.size w w') : IR w' base g cap n f := own_below h hb (Nat.le_refl _)
theorem IR.block (h : IR w base g cap n f) (e : w'.heap[g]? = w.heap[g]?) : IR w' base g cap n f := by
  unfold IR World.ownsRow at *
  refine ⟨h.1, h.2.imp id ?_⟩
  rintro ⟨g', cap', cur, hv, hb, hg, rest⟩
  refine ⟨g', cap', cur, hv, hb, ?_, rest⟩
  cases hv
  rw [e]; exact hg
end
theorem idx_at {g n c i : Nat} {x : Int} (hx : x = (i : Int)) (hi : i < n) (w : World) : (Instr.indexAt 25 (.slice (some ⟨g, 0, none⟩) n c) (.int .i64 x)).run Try.prog w = .ok (.pointer (some ⟨g, i, none⟩)) w := by
  subst hx
  rw [run_indexAt_slice w 25 _ _ _ _ _ (by kernel_rfl), if_pos (by omega)]
  have hs : (sizeOf (Try.prog.elem 25)).run Try.prog w = .ok 1 w := by kernel_rfl
  rw [hs]
  simp [Result.andThen, Addr.add]
  omega
/-- the world behind a sort: the row alone has turned -/
def Srt (w w' : World) (base g cap n : Nat) (f' : Nat → Int) : Prop := w.grownBy w' (some g) ∧ w'.heap.size = w.heap.size ∧ IR w' base g cap n f'

theorem Srt.refl {w : World} {base g cap n : Nat} {f : Nat → Int} (h : IR w base g cap n f) : Srt w w base g cap n f := ⟨⟨rfl, rfl, rfl, Nat.le_refl _, fun _ _ _ => rfl⟩, rfl, h⟩
theorem Srt.trans {a b c : World} {base g cap n : Nat} {f f' : Nat → Int} (h : Srt a b base g cap n f) (k : Srt b c base g cap n f') : Srt a c base g cap n f' := ⟨grownBy_trans h.1 k.1, k.2.1.trans h.2.1, k.2.2⟩
theorem Srt.drew {a b : World} {base g cap n : Nat} {f : Nat → Int} (h : Srt a b base g cap n f) : Srt a b.drew base g cap n f := ⟨⟨h.1.os, h.1.tape, h.1.output, h.1.size, h.1.block⟩, h.2.1, h.2.2.drew⟩
theorem Srt.dN {a b : World} {base g cap n : Nat} {f : Nat → Int} (h : Srt a b base g cap n f) (k : Nat) : Srt a (b.drewN k) base g cap n f := ⟨⟨h.1.os, h.1.tape, h.1.output, h.1.size, h.1.block⟩, h.2.1, h.2.2.dN k⟩
theorem Srt.swap {a b : World} {base g cap n : Nat} {f : Nat → Int} (h : Srt a b base g cap n f) {i j : Nat} (hi : i < n) (hj : j < n) :
    Srt a (((b.setCell ⟨g, i, none⟩ (.int .i64 (f j))).setCell ⟨g, j, none⟩ (.int .i64 (f i))).drew) base g cap n (swp f i j) := by
  refine Srt.drew ⟨grownBy_trans h.1 (grownBy_trans (grownBy_set _ _ _ _) (grownBy_set _ _ _ _)), by simpa using h.2.1, h.2.2.swap hi hj⟩
theorem Srt.swapN {a b : World} {base g cap n : Nat} {f : Nat → Int} (h : Srt a b base g cap n f) {i j : Nat} (hi : i < n) (hj : j < n) (k : Nat) :
    Srt a (((b.drewN k).setCell ⟨g, i, none⟩ (.int .i64 (f j))).setCell ⟨g, j, none⟩ (.int .i64 (f i))) base g cap n (swp f i j) := by
  have h := h.dN k
  exact ⟨grownBy_trans h.1 (grownBy_trans (grownBy_set _ _ _ _) (grownBy_set _ _ _ _)), by simpa using h.2.1, h.2.2.swap hi hj⟩
theorem Srt.of_eq {a b : World} {base g cap n : Nat} {f f' : Nat → Int} (h : Srt a b base g cap n f) (e : f = f') : Srt a b base g cap n f' := e ▸ h

set_option maxHeartbeats 1000000 in
theorem swapRange_any {base g cap n : Nat} {f : Nat → Int} (a b m : Nat) (cv : Value) (w : World) (h : IR w base g cap n f) (hab : a + m ≤ b) (hbn : b + m ≤ n) :
    Calls Try.prog 82 #[.slice (some ⟨g, 0, none⟩) n cap, .int .i64 a, .int .i64 b, .int .i64 m, cv] w fun e w' => e = .returned (.tuple #[]) ∧ Srt w w' base g cap n (swpR f a b m) := by
  obtain ⟨hc1, hc2⟩ := h.caps
  unfold maxLen at hc2
  have H := Lib.hid h
  clear h
  go_enter Try.func82, Try.ntmps82
  go_wp2_with fail
  go_loopg [10] m (fun gg ctr wr => ∃ i : Nat, i ≤ m ∧ gg = m - i ∧ ctr = .int .i64 i ∧ Srt w wr base g cap n (swpR f a b i))
  case atStart => exact ⟨0, by omega, rfl, rfl, ⟨rfl, rfl, rfl, Nat.le_refl _, fun _ _ _ => rfl⟩, rfl, by rw [swpR_zero]; exact H.out⟩
  case round =>
    obtain ⟨i, hi, rfl, rfl, hs⟩ := hrel
    have HS := Lib.hid hs
    clear hs
    by_cases him : i < m
    case neg =>
      obtain rfl : i = m := by omega
      go_wp2_with fail
      go_end0
      exact ⟨rfl, HS.out⟩
    have x0 := HS.out.2.2.cell (k := a + i) (by omega)
    have x1 := HS.out.2.2.cell (k := b + i) (by omega)
    have z0 := HS.out.2.2.free (a + i)
    have z1 := HS.out.2.2.free (b + i)
    have e0 : swpR f a b i (a + i) = swpR f a b i (a + i) := rfl
    clear e0
    have HW := Lib.hid (HS.out.swap (i := a + i) (j := b + i) (by omega) (by omega))
    rw [swpR_succ f (by omega)] at HW
    generalize swpR f a b i (a + i) = u at *
    generalize swpR f a b i (b + i) = v at *
    go_wp2_with fail
    go_region
    go_wp2_with fail
    go_roundg (m - (i + 1))
    case measure => omega
    case rel => exact ⟨i + 1, by omega, rfl, by go_num, HW.out⟩
end Go.Proofs.Ytaacfjeddoekfaa
