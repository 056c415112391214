/- Chapter 11: the reference does a stitch that is right. (Printed by gen_refdo.py.) -/
import Derived.Test.YtaacfjeddoekfaaKnitRef3
import Derived.Test.YtaacfjeddoekfaaKnitTaken
import Derived.Test.YtaacfjeddoekfaaPlanTwo
import Derived.Deep.CutRange
namespace Go.Proofs.Ytaacfjeddoekfaa
open Go.RowKit
set_option linter.unusedVariables false
set_option linter.unusedSimpArgs false

theorem news_loops {w : World} {S : Nat → Prop} {v : Value} {ls : List Lop} (h : LoopsRd w S v ls) (hn : NilOr v) : ∃ A c tv, v = .slice A ls.length c ∧ ls.length ≤ c ∧ c ≤ maxLen ∧ News w v ls.length (lrow ls tv) ∧ ∀ i, i < ls.length → Ints w S (tv i) (ls.getD i noLop).thr := by
  obtain ⟨A, c, tv, rfl, h1, h2, hr, hi⟩ := h
  refine ⟨A, c, tv, rfl, h1, h2, ?_, hi⟩
  rcases hn with e | ⟨g, p, n, c', e⟩
  · have e' := e
    simp only [Value.slice.injEq] at e'
    have hl : ls = [] := List.length_eq_zero_iff.1 e'.2.1
    subst hl
    exact .inl ⟨e, rfl, rfl⟩
  · simp only [Value.slice.injEq] at e
    obtain ⟨rfl, e2, e3⟩ := e
    refine .inr ⟨g, p, c, rfl, fun j x hx => ?_⟩
    have h0 : 0 < ls.length := by
      rcases Nat.eq_zero_or_pos ls.length with h | h
      · have hl : ls = [] := List.length_eq_zero_iff.1 h
        subst hl
        simp [lrow] at hx
      · exact h
    obtain ⟨b, o, e, _, hc⟩ := hr.at_ h0
    cases e
    exact hc j x hx
theorem news_els {α : Type} {f : α → List Value} {n : Nat} {w : World} {S : Nat → Prop} {v : Value} {xs : List α} (h : Els f n w S v xs) (hn : NilOr v) : ∃ A c, v = .slice A xs.length c ∧ xs.length ≤ c ∧ c ≤ maxLen ∧ News w v xs.length (xs.flatMap f) := by
  obtain ⟨A, c, rfl, h1, h2, hr⟩ := h
  refine ⟨A, c, rfl, h1, h2, ?_⟩
  rcases hn with e | ⟨g, p, m, c', e⟩
  · have e' := e
    simp only [Value.slice.injEq] at e'
    have hl : xs = [] := List.length_eq_zero_iff.1 e'.2.1
    subst hl
    exact .inl ⟨e, rfl, rfl⟩
  · simp only [Value.slice.injEq] at e
    obtain ⟨rfl, e2, e3⟩ := e
    refine .inr ⟨g, p, c, rfl, fun j x hx => ?_⟩
    have h0 : 0 < xs.length := by
      rcases Nat.eq_zero_or_pos xs.length with h | h
      · have hl : xs = [] := List.length_eq_zero_iff.1 h
        subst hl
        simp at hx
      · exact h
    obtain ⟨b, o, e, _, hc⟩ := hr.at_ h0
    cases e
    exact hc j x hx
theorem news_ints {w : World} {S : Nat → Prop} {v : Value} {xs : List Int} (h : Ints w S v xs) (hn : NilOr v) : ∃ A c, v = .slice A xs.length c ∧ xs.length ≤ c ∧ c ≤ maxLen ∧ News w v xs.length (ints xs) := by
  obtain ⟨A, c, rfl, h1, h2, hr⟩ := h
  refine ⟨A, c, rfl, h1, h2, ?_⟩
  rcases hn with e | ⟨g, p, m, c', e⟩
  · have e' := e
    simp only [Value.slice.injEq] at e'
    have hl : xs = [] := List.length_eq_zero_iff.1 e'.2.1
    subst hl
    exact .inl ⟨e, rfl, rfl⟩
  · simp only [Value.slice.injEq] at e
    obtain ⟨rfl, e2, e3⟩ := e
    refine .inr ⟨g, p, c, rfl, fun j x hx => ?_⟩
    have h0 : 0 < xs.length := by
      rcases Nat.eq_zero_or_pos xs.length with h | h
      · have hl : xs = [] := List.length_eq_zero_iff.1 h
        subst hl
        simp [ints] at hx
      · exact h
    obtain ⟨b, o, e, _, hc⟩ := hr.at_ h0
    cases e
    exact hc j x hx
theorem lrow_one {ls : List Lop} {tv : Nat → Value} (h : ∀ i, i < ls.length → (tv i).oneCell' = true) : ∀ u ∈ lrow ls tv, u.oneCell' = true := by
  intro u hu
  obtain ⟨i, hi, hu⟩ := List.mem_flatMap.1 hu
  simp at hu
  rcases hu with rfl | rfl
  · rfl
  · exact h i (by simpa using hi)
theorem ints_cell1 {w : World} {S : Nat → Prop} {v : Value} {xs : List Int} (h : Ints w S v xs) : v.oneCell' = true := by obtain ⟨A, c, rfl, _⟩ := h; rfl
/-- the boxes of the state, the stitch, the result -/
structure DR (w w1 : World) (cs xs : List Value) : Prop where
  below : Below w.heap.size w w1
  s : Arr w1 w.heap.size 58 cs
  x : Arr w1 (w.heap.size + 1) 44 xs
  r : Arr w1 (w.heap.size + 2) 58 [.int .i64 0, nils, nils, nils, .int .i64 0, .int .i64 0]
section
variable {w w1 w2 : World} {cs xs : List Value}
theorem DR.start (w : World) (cs xs : Array Value) : DR w (((w.alloc (.cells cs 58)).alloc (.cells xs 44)).alloc (.cells #[.int .i64 0, nils, nils, nils, .int .i64 0, .int .i64 0] 58)) cs.toList xs.toList := by
  refine ⟨(((Below.refl _ _).alloc (Nat.le_refl _) _).alloc (by simp) _).alloc (by simp; omega) _, ((Arr.new w cs 58).alloc _).alloc _, (arr_new2 w _ xs 44).alloc _, ?_⟩
  have := Arr.new ((w.alloc (.cells cs 58)).alloc (.cells xs 44)) #[.int .i64 0, nils, nils, nils, .int .i64 0, .int .i64 0] 58
  simpa using this
theorem DR.next (h : DR w w1 cs xs) (hb : Below w1.heap.size w1 w2) : DR w w2 cs xs :=
  ⟨h.below.trans (hb.mono h.below.size), h.s.of_eq (hb.block _ h.s.lt), h.x.of_eq (hb.block _ h.x.lt), h.r.of_eq (hb.block _ h.r.lt)⟩
theorem DR.set (h : DR w w1 cs xs) (j : Nat) (u : Value) : DR w (w1.setCell ⟨w.heap.size, j, none⟩ u) (cs.set j u) xs :=
  ⟨h.below.setCell (Nat.le_refl _) _, h.s.set j u, h.x.far (by show w.heap.size + 1 ≠ w.heap.size; omega) u, h.r.far (by show w.heap.size + 2 ≠ w.heap.size; omega) u⟩
theorem DR.size (h : DR w w1 cs xs) : w.heap.size + 3 ≤ w1.heap.size := h.r.lt
end
/-- what the state leans on: blocks of S, and new ones -/
def Gr (S : Nat → Prop) (w w' : World) : Nat → Prop := fun b => S b ∨ (w.heap.size ≤ b ∧ b < w'.heap.size)
structure RSs (S : Nat → Prop) (w : World) (N : Nat) (k : KS) (hs : List Hd) (vl vh vo : Value) : Prop where
  loops : LoopsRd w S vl k.loops
  held : Helds w S vh hs
  loose : Ints w S vo k.loose
  on : ∀ b n, heldOn hs b n = k.on b n
  len : hs.length ≤ k.done
  nl : NilOr vl
  nh : NilOr vh
  no : NilOr vo
theorem RSs.rs {S : Nat → Prop} {w : World} {N : Nat} {k : KS} {hs : List Hd} {vl vh vo : Value} (h : RSs S w N k hs vl vh vo) (hS : ∀ b, S b → b < w.heap.size) : RS w N k hs vl vh vo :=
  ⟨h.loops.mono hS, h.held.mono hS, h.loose.mono hS, h.on, h.len, h.nl, h.nh, h.no⟩
theorem RSs.same {S : Nat → Prop} {w w' : World} {N : Nat} {k : KS} {hs : List Hd} {vl vh vo : Value} (h : RSs S w N k hs vl vh vo) (e : Same S w w') : RSs S w' N k hs vl vh vo :=
  ⟨h.loops.same e, h.held.same e, h.loose.same e, h.on, h.len, h.nl, h.nh, h.no⟩
theorem RSs.mono {S T : Nat → Prop} {w : World} {N : Nat} {k : KS} {hs : List Hd} {vl vh vo : Value} (h : RSs S w N k hs vl vh vo) (e : ∀ b, S b → T b) : RSs T w N k hs vl vh vo :=
  ⟨h.loops.mono e, h.held.mono e, h.loose.mono e, h.on, h.len, h.nl, h.nh, h.no⟩
variable {S : Nat → Prop}
/-- blocks that the boxes leave alone -/
def Fs (S : Nat → Prop) (w w1 : World) : Nat → Prop := fun b => b < w1.heap.size ∧ b ≠ w.heap.size ∧ b ≠ w.heap.size + 2 ∧ (S b ∨ w.heap.size ≤ b)
theorem hs_set (q : Addr) (x : Value) (w : World) : (w.setCell q x).heap.size = w.heap.size := by simp [World.setCell]
theorem Fs.set {w w1 : World} (j : Nat) (u : Value) : Same (Fs S w w1) w1 (w1.setCell ⟨w.heap.size, j, none⟩ u) := fun b hb => Below.heap_setCell _ _ _ _ hb.2.1
theorem Fs.sub {w w1 : World} (j : Nat) (u : Value) (b : Nat) (h : Fs S w w1 b) : Fs S w (w1.setCell ⟨w.heap.size, j, none⟩ u) b := ⟨by rw [hs_set]; exact h.1, h.2⟩
theorem Fs.sub2 {w w1 : World} (j : Nat) (u : Value) (b : Nat) (h : Fs S w w1 b) : Fs S w (w1.setCell ⟨w.heap.size + 2, j, none⟩ u) b := ⟨by rw [hs_set]; exact h.1, h.2⟩
theorem Fs.set2 {w w1 : World} (j : Nat) (u : Value) : Same (Fs S w w1) w1 (w1.setCell ⟨w.heap.size + 2, j, none⟩ u) := fun b hb => Below.heap_setCell _ _ _ _ hb.2.2.1
theorem Fs.grow {w w1 w2 : World} (hb : Below w1.heap.size w1 w2) : Same (Fs S w w1) w1 w2 := fun b h => hb.block b h.1
theorem Fs.mono {w w1 w2 : World} (hb : Below w1.heap.size w1 w2) (b : Nat) (h : Fs S w w1 b) : Fs S w w2 b := ⟨Nat.lt_of_lt_of_le h.1 hb.size, h.2⟩
/-- the state in its box -/
structure DS (S : Nat → Prop) (w w1 : World) (N : Nat) (ls : List Lop) (hs : List Hd) (lo : List Int) (r d : Int) (vl vh vo : Value) (xs : List Value) (u : Value) (ul : List Int) : Prop where
  dr : DR w w1 [.int .i64 N, vl, vh, vo, .int .i64 r, .int .i64 d] xs
  loops : LoopsRd w1 (Fs S w w1) vl ls
  held : Helds w1 (Fs S w w1) vh hs
  loose : Ints w1 (Fs S w w1) vo lo
  nl : NilOr vl
  nh : NilOr vh
  no : NilOr vo
  ex : Ints w1 (Fs S w w1) u ul
section
variable {w w1 w2 : World} {N : Nat} {ls : List Lop} {hs : List Hd} {lo : List Int} {r d : Int} {vl vh vo : Value} {xs : List Value} {u : Value} {ul : List Int}
theorem DS.next (h : DS S w w1 N ls hs lo r d vl vh vo xs u ul) (hb : Below w1.heap.size w1 w2) : DS S w w2 N ls hs lo r d vl vh vo xs u ul :=
  ⟨h.dr.next hb, (h.loops.same (Fs.grow hb)).mono (Fs.mono hb), (h.held.same (Fs.grow hb)).mono (Fs.mono hb), (h.loose.same (Fs.grow hb)).mono (Fs.mono hb), h.nl, h.nh, h.no, (h.ex.same (Fs.grow hb)).mono (Fs.mono hb)⟩
theorem DS.drew (h : DS S w w1 N ls hs lo r d vl vh vo xs u ul) : DS S w w1.drew N ls hs lo r d vl vh vo xs u ul := h.next (below_dN (n := 1) (Below.refl _ _))
theorem DS.setD (h : DS S w w1 N ls hs lo r d vl vh vo xs u ul) : DS S w (w1.setCell ⟨w.heap.size, 5, none⟩ (.int .i64 (d + 1))) N ls hs lo r (d + 1) vl vh vo xs u ul :=
  ⟨h.dr.set 5 _, (h.loops.same (Fs.set _ _)).mono (Fs.sub _ _), (h.held.same (Fs.set _ _)).mono (Fs.sub _ _), (h.loose.same (Fs.set _ _)).mono (Fs.sub _ _), h.nl, h.nh, h.no, (h.ex.same (Fs.set _ _)).mono (Fs.sub _ _)⟩
theorem DS.setR (h : DS S w w1 N ls hs lo r d vl vh vo xs u ul) (r' : Int) : DS S w (w1.setCell ⟨w.heap.size, 4, none⟩ (.int .i64 r')) N ls hs lo r' d vl vh vo xs u ul :=
  ⟨h.dr.set 4 _, (h.loops.same (Fs.set _ _)).mono (Fs.sub _ _), (h.held.same (Fs.set _ _)).mono (Fs.sub _ _), (h.loose.same (Fs.set _ _)).mono (Fs.sub _ _), h.nl, h.nh, h.no, (h.ex.same (Fs.set _ _)).mono (Fs.sub _ _)⟩
theorem DS.setL (h : DS S w w1 N ls hs lo r d vl vh vo xs u ul) {v : Value} {ls' : List Lop} (hv : LoopsRd w1 (Fs S w w1) v ls') (hn : NilOr v) : DS S w (w1.setCell ⟨w.heap.size, 1, none⟩ v) N ls' hs lo r d v vh vo xs u ul :=
  ⟨h.dr.set 1 _, (hv.same (Fs.set _ _)).mono (Fs.sub _ _), (h.held.same (Fs.set _ _)).mono (Fs.sub _ _), (h.loose.same (Fs.set _ _)).mono (Fs.sub _ _), hn, h.nh, h.no, (h.ex.same (Fs.set _ _)).mono (Fs.sub _ _)⟩
theorem DS.setH (h : DS S w w1 N ls hs lo r d vl vh vo xs u ul) {v : Value} {hs' : List Hd} (hv : Helds w1 (Fs S w w1) v hs') (hn : NilOr v) : DS S w (w1.setCell ⟨w.heap.size, 2, none⟩ v) N ls hs' lo r d vl v vo xs u ul :=
  ⟨h.dr.set 2 _, (h.loops.same (Fs.set _ _)).mono (Fs.sub _ _), (hv.same (Fs.set _ _)).mono (Fs.sub _ _), (h.loose.same (Fs.set _ _)).mono (Fs.sub _ _), h.nl, hn, h.no, (h.ex.same (Fs.set _ _)).mono (Fs.sub _ _)⟩
theorem DS.setO (h : DS S w w1 N ls hs lo r d vl vh vo xs u ul) {v : Value} {lo' : List Int} (hv : Ints w1 (Fs S w w1) v lo') (hn : NilOr v) : DS S w (w1.setCell ⟨w.heap.size, 3, none⟩ v) N ls hs lo' r d vl vh v xs u ul :=
  ⟨h.dr.set 3 _, (h.loops.same (Fs.set _ _)).mono (Fs.sub _ _), (h.held.same (Fs.set _ _)).mono (Fs.sub _ _), (hv.same (Fs.set _ _)).mono (Fs.sub _ _), h.nl, h.nh, hn, (h.ex.same (Fs.set _ _)).mono (Fs.sub _ _)⟩
/-- the whole box is written: other loops are held -/
theorem DS.set6 (h : DS S w w1 N ls hs lo r d vl vh vo xs u ul) {v : Value} {hs' : List Hd} (hv : Helds w1 (Fs S w w1) v hs') (hn : NilOr v) :
    DS S w ((((((w1.setCell ⟨w.heap.size, 0, none⟩ (.int .i64 N)).setCell ⟨w.heap.size, 1, none⟩ vl).setCell ⟨w.heap.size, 2, none⟩ v).setCell ⟨w.heap.size, 3, none⟩ vo).setCell ⟨w.heap.size, 4, none⟩ (.int .i64 r)).setCell ⟨w.heap.size, 5, none⟩ (.int .i64 d)) N ls hs' lo r d vl v vo xs u ul := by
  refine ⟨(((((h.dr.set 0 _).set 1 _).set 2 _).set 3 _).set 4 _).set 5 _, ?_, ?_, ?_, h.nl, hn, h.no, ?_⟩
  · refine (h.loops.same fun b hb => ?_).mono fun b hb => ⟨by rw [hs_set, hs_set, hs_set, hs_set, hs_set, hs_set]; exact hb.1, hb.2⟩
    exact (((((Below.heap_setCell _ _ _ _ hb.2.1).trans (Below.heap_setCell _ _ _ _ hb.2.1)).trans (Below.heap_setCell _ _ _ _ hb.2.1)).trans (Below.heap_setCell _ _ _ _ hb.2.1)).trans (Below.heap_setCell _ _ _ _ hb.2.1)).trans (Below.heap_setCell _ _ _ _ hb.2.1)
  · refine (hv.same fun b hb => ?_).mono fun b hb => ⟨by rw [hs_set, hs_set, hs_set, hs_set, hs_set, hs_set]; exact hb.1, hb.2⟩
    exact (((((Below.heap_setCell _ _ _ _ hb.2.1).trans (Below.heap_setCell _ _ _ _ hb.2.1)).trans (Below.heap_setCell _ _ _ _ hb.2.1)).trans (Below.heap_setCell _ _ _ _ hb.2.1)).trans (Below.heap_setCell _ _ _ _ hb.2.1)).trans (Below.heap_setCell _ _ _ _ hb.2.1)
  · refine (h.loose.same fun b hb => ?_).mono fun b hb => ⟨by rw [hs_set, hs_set, hs_set, hs_set, hs_set, hs_set]; exact hb.1, hb.2⟩
    exact (((((Below.heap_setCell _ _ _ _ hb.2.1).trans (Below.heap_setCell _ _ _ _ hb.2.1)).trans (Below.heap_setCell _ _ _ _ hb.2.1)).trans (Below.heap_setCell _ _ _ _ hb.2.1)).trans (Below.heap_setCell _ _ _ _ hb.2.1)).trans (Below.heap_setCell _ _ _ _ hb.2.1)
  · refine (h.ex.same fun b hb => ?_).mono fun b hb => ⟨by rw [hs_set, hs_set, hs_set, hs_set, hs_set, hs_set]; exact hb.1, hb.2⟩
    exact (((((Below.heap_setCell _ _ _ _ hb.2.1).trans (Below.heap_setCell _ _ _ _ hb.2.1)).trans (Below.heap_setCell _ _ _ _ hb.2.1)).trans (Below.heap_setCell _ _ _ _ hb.2.1)).trans (Below.heap_setCell _ _ _ _ hb.2.1)).trans (Below.heap_setCell _ _ _ _ hb.2.1)
/-- the result is written -/
theorem DS.fin (h : DS S w w1 N ls hs lo r d vl vh vo xs u ul) {k : KS} (e1 : k.loops = ls) (e2 : k.loose = lo) (e3 : ∀ b n, heldOn hs b n = k.on b n) (e4 : hs.length ≤ k.done) :
    RSs (Gr S w ((((((w1.setCell ⟨w.heap.size + 2, 0, none⟩ (.int .i64 N)).setCell ⟨w.heap.size + 2, 1, none⟩ vl).setCell ⟨w.heap.size + 2, 2, none⟩ vh).setCell ⟨w.heap.size + 2, 3, none⟩ vo).setCell ⟨w.heap.size + 2, 4, none⟩ (.int .i64 r)).setCell ⟨w.heap.size + 2, 5, none⟩ (.int .i64 d))) ((((((w1.setCell ⟨w.heap.size + 2, 0, none⟩ (.int .i64 N)).setCell ⟨w.heap.size + 2, 1, none⟩ vl).setCell ⟨w.heap.size + 2, 2, none⟩ vh).setCell ⟨w.heap.size + 2, 3, none⟩ vo).setCell ⟨w.heap.size + 2, 4, none⟩ (.int .i64 r)).setCell ⟨w.heap.size + 2, 5, none⟩ (.int .i64 d)) N k hs vl vh vo ∧
    Below w.heap.size w ((((((w1.setCell ⟨w.heap.size + 2, 0, none⟩ (.int .i64 N)).setCell ⟨w.heap.size + 2, 1, none⟩ vl).setCell ⟨w.heap.size + 2, 2, none⟩ vh).setCell ⟨w.heap.size + 2, 3, none⟩ vo).setCell ⟨w.heap.size + 2, 4, none⟩ (.int .i64 r)).setCell ⟨w.heap.size + 2, 5, none⟩ (.int .i64 d)) := by
  have hl : w.heap.size ≤ w.heap.size + 2 := by omega
  refine ⟨⟨?_, ?_, ?_, e3, e4, h.nl, h.nh, h.no⟩, (((((h.dr.below.setCell hl _).setCell hl _).setCell hl _).setCell hl _).setCell hl _).setCell hl _⟩
  · rw [e1]
    refine (h.loops.same fun b hb => ?_).mono fun b hb => hb.2.2.2.imp id fun h => ⟨h, by rw [hs_set, hs_set, hs_set, hs_set, hs_set, hs_set]; exact hb.1⟩
    exact (((((Below.heap_setCell _ _ _ _ hb.2.2.1).trans (Below.heap_setCell _ _ _ _ hb.2.2.1)).trans (Below.heap_setCell _ _ _ _ hb.2.2.1)).trans (Below.heap_setCell _ _ _ _ hb.2.2.1)).trans (Below.heap_setCell _ _ _ _ hb.2.2.1)).trans (Below.heap_setCell _ _ _ _ hb.2.2.1)
  · refine (h.held.same fun b hb => ?_).mono fun b hb => hb.2.2.2.imp id fun h => ⟨h, by rw [hs_set, hs_set, hs_set, hs_set, hs_set, hs_set]; exact hb.1⟩
    exact (((((Below.heap_setCell _ _ _ _ hb.2.2.1).trans (Below.heap_setCell _ _ _ _ hb.2.2.1)).trans (Below.heap_setCell _ _ _ _ hb.2.2.1)).trans (Below.heap_setCell _ _ _ _ hb.2.2.1)).trans (Below.heap_setCell _ _ _ _ hb.2.2.1)).trans (Below.heap_setCell _ _ _ _ hb.2.2.1)
  · rw [e2]
    refine (h.loose.same fun b hb => ?_).mono fun b hb => hb.2.2.2.imp id fun h => ⟨h, by rw [hs_set, hs_set, hs_set, hs_set, hs_set, hs_set]; exact hb.1⟩
    exact (((((Below.heap_setCell _ _ _ _ hb.2.2.1).trans (Below.heap_setCell _ _ _ _ hb.2.2.1)).trans (Below.heap_setCell _ _ _ _ hb.2.2.1)).trans (Below.heap_setCell _ _ _ _ hb.2.2.1)).trans (Below.heap_setCell _ _ _ _ hb.2.2.1)).trans (Below.heap_setCell _ _ _ _ hb.2.2.1)
end
theorem ints_nil {w : World} {S : Nat → Prop} : Ints w S nils [] := ⟨none, 0, rfl, Nat.le_refl _, by simp [maxLen], ⟨by simp [ints], fun h => absurd h (by decide)⟩⟩
theorem DS.start {w : World} {N : Nat} {k : KS} {hs : List Hd} {vl vh vo : Value} (h : RSs S w N k hs vl vh vo) (hS : ∀ b, S b → b < w.heap.size) (xs : Array Value) :
    DS S w (((w.alloc (.cells #[.int .i64 N, vl, vh, vo, .int .i64 k.rack, .int .i64 (k.done : Int)] 58)).alloc (.cells xs 44)).alloc (.cells #[.int .i64 0, nils, nils, nils, .int .i64 0, .int .i64 0] 58)) N k.loops hs k.loose k.rack (k.done : Int) vl vh vo xs.toList nils [] := by
  have hd := DR.start w #[.int .i64 N, vl, vh, vo, .int .i64 k.rack, .int .i64 (k.done : Int)] xs
  have hb : Below w.heap.size w _ := hd.below
  have hs := hd.size
  exact ⟨hd, (h.loops.same fun b hb' => hb.block b (hS b hb')).mono fun b hb' => (by have := hS b hb'; exact ⟨by omega, by omega, by omega, .inl hb'⟩), (h.held.same fun b hb' => hb.block b (hS b hb')).mono fun b hb' => (by have := hS b hb'; exact ⟨by omega, by omega, by omega, .inl hb'⟩),
    (h.loose.same fun b hb' => hb.block b (hS b hb')).mono fun b hb' => (by have := hS b hb'; exact ⟨by omega, by omega, by omega, .inl hb'⟩), h.nl, h.nh, h.no, ints_nil⟩
theorem LoopsRd.of_own {w : World} {base : Nat} {e : TypeId} {v : Value} {n : Nat} {ls : List Lop} {tv : Nat → Value} {S : Nat → Prop} (h : w.ownsRow base e 2 v n (lrow ls tv)) (hn : n = ls.length) (hS : ∀ b, base ≤ b → b < w.heap.size → S b) (hi : ∀ i, i < ls.length → Ints w S (tv i) (ls.getD i noLop).thr) : LoopsRd w S v ls := by
  subst hn
  obtain ⟨A, c, rfl, h1, h2⟩ := own_form h
  exact ⟨A, c, tv, rfl, h1, h2, (Row.of_own h).mono fun b hb => hS b hb.1 hb.2, hi⟩
/-- the list of a needle's loops -/
theorem DS.on {w w1 w2 : World} {N : Nat} {ls : List Lop} {hs : List Hd} {lo : List Int} {r d : Int} {vl vh vo : Value} {xs : List Value} {u u' : Value} {ul ul' : List Int} (h : DS S w w1 N ls hs lo r d vl vh vo xs u ul) (hb : Below w1.heap.size w1 w2) (hu : Ints w2 (fun b => w1.heap.size ≤ b ∧ b < w2.heap.size) u' ul') : DS S w w2 N ls hs lo r d vl vh vo xs u' ul' := by
  have hn := h.next hb
  have hs := h.dr.size
  exact ⟨hn.dr, hn.loops, hn.held, hn.loose, hn.nl, hn.nh, hn.no, hu.mono fun b hb' => ⟨hb'.2, by omega, by omega, .inr (by omega)⟩⟩
/-- a loop more -/
theorem DS.growL {w wz w5 : World} {N : Nat} {ls : List Lop} {hs : List Hd} {lo : List Int} {r d : Int} {vl vh vo v' u u' : Value} {xs : List Value} {tv : Nat → Value} {c : Int} {l ul : List Int} {n : Nat} {us : List Value}
    (h : DS S w wz N ls hs lo r d vl vh vo xs u ul) (ht : ∀ i, i < ls.length → Ints wz (Fs S w wz) (tv i) (ls.getD i noLop).thr) (hu : Ints wz (Fs S w wz) u' l) (hb : Below wz.heap.size wz w5) (hv : w5.ownsRow wz.heap.size 41 2 v' n us) (hn : n = ls.length + 1) (hus : us = lrow ls tv ++ [.int .i64 c, u']) :
    DS S w (w5.setCell ⟨w.heap.size, 1, none⟩ v') N (ls ++ [⟨c, l⟩]) hs lo r d v' vh vo xs u ul := by
  have hsz := h.dr.size
  have hv2 : w5.ownsRow wz.heap.size 41 2 v' n (lrow (ls ++ [⟨c, l⟩]) fun i => if i = ls.length then u' else tv i) := by rw [lrow_snoc ls tv ⟨c, l⟩ u', ← hus]; exact hv
  refine (h.next hb).setL (LoopsRd.of_own hv2 (by simp [hn]) (fun b h1 h2 => ⟨h2, by omega, by omega, .inr (by omega)⟩) ?_) (.of_own hv)
  · intro i hi
    rw [List.length_append, List.length_singleton] at hi
    by_cases e : i = ls.length
    · subst e
      simp only [if_true]
      simpa using (hu.same (Fs.grow hb)).mono (Fs.mono hb)
    · rw [if_neg e, show (ls ++ [(⟨c, l⟩ : Lop)]).getD i noLop = ls.getD i noLop by simp [List.getD, List.getElem?_append_left (show i < ls.length by omega)]]
      exact ((ht i (by omega)).same (Fs.grow hb)).mono (Fs.mono hb)
theorem flat_snoc (hs : List Hd) (x : Hd) : (hs ++ [x]).flatMap Hd.cells = hs.flatMap Hd.cells ++ [.int .i64 x.l, .int .i64 x.b, .int .i64 x.n] := by rw [List.flatMap_append]; simp [Hd.cells]
theorem DS.growH {w wz w5 : World} {N : Nat} {ls : List Lop} {hs hs' : List Hd} {lo : List Int} {r d : Int} {vl vh vo v' u : Value} {xs : List Value} {ul : List Int} {n B : Nat}
    (h : DS S w wz N ls hs lo r d vl vh vo xs u ul) (hb : Below wz.heap.size wz w5) (hB : w.heap.size + 3 ≤ B) (hv : w5.ownsRow B 90 3 v' n (hs'.flatMap Hd.cells)) :
    DS S w (w5.setCell ⟨w.heap.size, 2, none⟩ v') N ls hs' lo r d vl v' vo xs u ul :=
  (h.next hb).setH ((Helds.of_own hv).mono fun b hb' => ⟨hb'.2, by omega, by omega, .inr (by omega)⟩) (.of_own hv)
theorem DS.growO {w wz w5 : World} {N : Nat} {ls : List Lop} {hs : List Hd} {lo lo' : List Int} {r d : Int} {vl vh vo v' u : Value} {xs : List Value} {ul : List Int}
    (h : DS S w wz N ls hs lo r d vl vh vo xs u ul) (hb : Below wz.heap.size wz w5) (hv : w5.ownsRow wz.heap.size 3 1 v' lo'.length (ints lo')) :
    DS S w (w5.setCell ⟨w.heap.size, 3, none⟩ v') N ls hs lo' r d vl vh v' xs u ul := by
  have hs := h.dr.size
  exact (h.next hb).setO ((Ints.of_own hv).mono fun b hb' => ⟨hb'.2, by omega, by omega, .inr (by omega)⟩) (.of_own hv)

/-! who is held where -/
theorem heldOn_off (hs : List Hd) (b n b' n' : Int) : heldOn (heldOff hs b n) b' n' = if b' = b ∧ n' = n then [] else heldOn hs b' n' := by
  unfold heldOn heldOff
  rw [List.filter_filter]
  split
  · next h =>
    obtain ⟨rfl, rfl⟩ := h
    rw [List.filter_eq_nil_iff.2 (fun x _ => by simp)]; rfl
  · next h =>
    congr 1
    refine List.filter_congr fun x _ => ?_
    unfold Hd.at_
    by_cases e1 : x.b = b' <;> by_cases e2 : x.n = n' <;> simp [e1, e2]
    by_cases e3 : b' = b
    · exact .inr fun e4 => h ⟨e3, e4⟩
    · exact .inl e3
theorem heldOn_app (a c : List Hd) (b n : Int) : heldOn (a ++ c) b n = heldOn a b n ++ heldOn c b n := by unfold heldOn; rw [List.filter_append, List.map_append]
theorem heldOn_map (l : List Int) (fb fn b n : Int) : heldOn (l.map fun x => ⟨x, fb, fn⟩) b n = if b = fb ∧ n = fn then l else [] := by
  induction l with
  | nil => unfold heldOn; split <;> rfl
  | cons x l ih =>
    rw [List.map_cons, show (⟨x, fb, fn⟩ : Hd) :: l.map (fun x => ⟨x, fb, fn⟩) = [⟨x, fb, fn⟩] ++ l.map (fun x => ⟨x, fb, fn⟩) from rfl, heldOn_app, ih]
    unfold heldOn Hd.at_
    by_cases e : b = fb ∧ n = fn
    · obtain ⟨rfl, rfl⟩ := e
      simp
    · rw [if_neg e, if_neg e]
      have e2 : (fb == b && fn == n) = false := by
        cases h : (fb == b && fn == n) with
        | false => rfl
        | true => simp at h; exact absurd ⟨h.1.symm, h.2.symm⟩ e
      simp [e2]
theorem held_len (hs : List Hd) (b n : Int) : (heldOff hs b n).length + (heldOn hs b n).length = hs.length := by
  unfold heldOn heldOff
  rw [List.length_map]
  induction hs with
  | nil => rfl
  | cons x l ih =>
    cases e : x.at_ b n <;> simp [e] <;> omega
theorem on_knit {hs : List Hd} {on : Int → Int → List Int} (h : ∀ b n, heldOn hs b n = on b n) (l b n b' n' : Int) : heldOn (heldOff hs b n ++ [⟨l, b, n⟩]) b' n' = put on b n [l] b' n' := by
  rw [heldOn_app, heldOn_off, show [(⟨l, b, n⟩ : Hd)] = [l].map fun x => ⟨x, b, n⟩ from rfl, heldOn_map, h]
  unfold put
  split <;> simp
theorem on_tuck {hs : List Hd} {on : Int → Int → List Int} (h : ∀ b n, heldOn hs b n = on b n) (l b n b' n' : Int) : heldOn (hs ++ [⟨l, b, n⟩]) b' n' = put on b n (on b n ++ [l]) b' n' := by
  rw [heldOn_app, show [(⟨l, b, n⟩ : Hd)] = [l].map fun x => ⟨x, b, n⟩ from rfl, heldOn_map, h]
  unfold put
  split
  · next e => rw [e.1, e.2]
  · simp
theorem on_move {hs : List Hd} {on : Int → Int → List Int} (h : ∀ b n, heldOn hs b n = on b n) {b n fb fn : Int} (hne : fb ≠ b) (b' n' : Int) : heldOn (heldOff hs b n ++ (on b n).map fun x => ⟨x, fb, fn⟩) b' n' = put (put on fb fn (on fb fn ++ on b n)) b n [] b' n' := by
  rw [heldOn_app, heldOn_off, heldOn_map, h]
  unfold put
  by_cases e : b' = b ∧ n' = n
  · rw [if_pos e, if_pos e, if_neg (fun c => hne (c.1.symm.trans e.1))]; rfl
  · rw [if_neg e, if_neg e]
    by_cases e2 : b' = fb ∧ n' = fn
    · rw [if_pos e2, if_pos e2, e2.1, e2.2]
    · rw [if_neg e2, if_neg e2]; simp
theorem on_drop {hs : List Hd} {on : Int → Int → List Int} (h : ∀ b n, heldOn hs b n = on b n) (b n b' n' : Int) : heldOn (heldOff hs b n) b' n' = put on b n [] b' n' := by
  rw [heldOn_off, h]; rfl
end Go.Proofs.Ytaacfjeddoekfaa
