/- Chapter 11: the reference's state in its box, where the held loops are a row of our own. -/
import Derived.Test.YtaacfjeddoekfaaKnitRef4
namespace Go.Proofs.Ytaacfjeddoekfaa
open Go.RowKit
set_option linter.unusedVariables false

theorem own_lower {w : World} {base base' : Nat} {e : TypeId} {size n : Nat} {v : Value} {xs : List Value} (h : w.ownsRow base e size v n xs) (hb : base' ≤ base) : w.ownsRow base' e size v n xs := by
  refine ⟨h.1, ?_⟩
  rcases h.2 with h0 | ⟨g, cap, cur, e, hg, rest⟩
  · exact .inl h0
  · exact .inr ⟨g, cap, cur, e, Nat.le_trans hb hg, rest⟩
variable {S : Nat → Prop}
/-- blocks that the boxes and a row of our own leave alone -/
def Fx (S : Nat → Prop) (w w1 : World) (v : Value) : Nat → Prop := fun b => Fs S w w1 b ∧ v.ownBlock ≠ some b
theorem Fx.grow {w w1 w2 : World} {v : Value} (hb : Below w1.heap.size w1 w2) : Same (Fx S w w1 v) w1 w2 := fun b h => hb.block b h.1.1
theorem Fx.mono {w w1 w2 : World} {v : Value} (hb : Below w1.heap.size w1 w2) (b : Nat) (h : Fx S w w1 v b) : Fx S w w2 v b := ⟨Fs.mono hb b h.1, h.2⟩
theorem Fx.set {w w1 : World} {v : Value} (j : Nat) (u : Value) : Same (Fx S w w1 v) w1 (w1.setCell ⟨w.heap.size, j, none⟩ u) := fun b hb => Below.heap_setCell _ _ _ _ hb.1.2.1
theorem Fx.sub {w w1 : World} {v : Value} (j : Nat) (u : Value) (b : Nat) (h : Fx S w w1 v b) : Fx S w (w1.setCell ⟨w.heap.size, j, none⟩ u) v b := ⟨Fs.sub j u b h.1, h.2⟩
structure DXr (S : Nat → Prop) (w w1 : World) (N : Nat) (ls : List Lop) (hs : List Hd) (lo : List Int) (r d : Int) (vl vh vo : Value) (xs : List Value) (u : Value) (ul : List Int) : Prop where
  dr : DR w w1 [.int .i64 N, vl, vh, vo, .int .i64 r, .int .i64 d] xs
  loops : LoopsRd w1 (Fx S w w1 vh) vl ls
  held : w1.ownsRow (w.heap.size + 3) 90 3 vh hs.length (hs.flatMap Hd.cells)
  loose : Ints w1 (Fx S w w1 vh) vo lo
  nl : NilOr vl
  no : NilOr vo
  ex : Ints w1 (Fx S w w1 vh) u ul
section
variable {w w1 w2 w3 : World} {N : Nat} {ls : List Lop} {hs hs' : List Hd} {lo : List Int} {r d : Int} {vl vh vh0 vo v v' : Value} {xs : List Value} {u : Value} {ul : List Int}
theorem DXr.to (h : DXr S w w1 N ls hs lo r d vl vh vo xs u ul) : DS S w w1 N ls hs lo r d vl vh vo xs u ul :=
  ⟨h.dr, h.loops.mono fun _ hb => hb.1, (Helds.of_own h.held).mono fun b hb => ⟨hb.2, by omega, by omega, .inr (by omega)⟩, h.loose.mono fun _ hb => hb.1, h.nl, .of_own h.held, h.no, h.ex.mono fun _ hb => hb.1⟩
theorem DXr.next (h : DXr S w w1 N ls hs lo r d vl vh vo xs u ul) (hb : Below w1.heap.size w1 w2) : DXr S w w2 N ls hs lo r d vl vh vo xs u ul :=
  ⟨h.dr.next hb, (h.loops.same (Fx.grow hb)).mono (Fx.mono hb), own_below h.held hb (Nat.le_refl _), (h.loose.same (Fx.grow hb)).mono (Fx.mono hb), h.nl, h.no, (h.ex.same (Fx.grow hb)).mono (Fx.mono hb)⟩
theorem DXr.setL (h : DXr S w w1 N ls hs lo r d vl vh vo xs u ul) {ls' : List Lop} (hv : LoopsRd w1 (Fx S w w1 vh) v ls') (hn : NilOr v) : DXr S w (w1.setCell ⟨w.heap.size, 1, none⟩ v) N ls' hs lo r d v vh vo xs u ul :=
  ⟨h.dr.set 1 _, (hv.same (Fx.set _ _)).mono (Fx.sub _ _), own_box h.held (by omega) _, (h.loose.same (Fx.set _ _)).mono (Fx.sub _ _), hn, h.no, (h.ex.same (Fx.set _ _)).mono (Fx.sub _ _)⟩
theorem DXr.setO (h : DXr S w w1 N ls hs lo r d vl vh vo xs u ul) {lo' : List Int} (hv : Ints w1 (Fx S w w1 vh) v lo') (hn : NilOr v) : DXr S w (w1.setCell ⟨w.heap.size, 3, none⟩ v) N ls hs lo' r d vl vh v xs u ul :=
  ⟨h.dr.set 3 _, (h.loops.same (Fx.set _ _)).mono (Fx.sub _ _), own_box h.held (by omega) _, (hv.same (Fx.set _ _)).mono (Fx.sub _ _), h.nl, hn, (h.ex.same (Fx.set _ _)).mono (Fx.sub _ _)⟩
theorem Fx.set6 {w w1 : World} {v : Value} (a b c d e f : Value) {x : Nat} (hb : Fx S w w1 v x) : Fx S w ((((((w1.setCell ⟨w.heap.size, 0, none⟩ a).setCell ⟨w.heap.size, 1, none⟩ b).setCell ⟨w.heap.size, 2, none⟩ c).setCell ⟨w.heap.size, 3, none⟩ d).setCell ⟨w.heap.size, 4, none⟩ e).setCell ⟨w.heap.size, 5, none⟩ f) v x :=
  ⟨⟨by rw [hs_set, hs_set, hs_set, hs_set, hs_set, hs_set]; exact hb.1.1, hb.1.2⟩, hb.2⟩
theorem Fx.same6 {w w1 : World} {v : Value} (a b c d e f : Value) : Same (Fx S w w1 v) w1 ((((((w1.setCell ⟨w.heap.size, 0, none⟩ a).setCell ⟨w.heap.size, 1, none⟩ b).setCell ⟨w.heap.size, 2, none⟩ c).setCell ⟨w.heap.size, 3, none⟩ d).setCell ⟨w.heap.size, 4, none⟩ e).setCell ⟨w.heap.size, 5, none⟩ f) := fun x hb =>
  (((((Below.heap_setCell _ _ _ _ hb.1.2.1).trans (Below.heap_setCell _ _ _ _ hb.1.2.1)).trans (Below.heap_setCell _ _ _ _ hb.1.2.1)).trans (Below.heap_setCell _ _ _ _ hb.1.2.1)).trans (Below.heap_setCell _ _ _ _ hb.1.2.1)).trans (Below.heap_setCell _ _ _ _ hb.1.2.1)
/-- what is left of a needle becomes the held loops -/
theorem DXr.of (h : DS S w w2 N ls hs lo r d vl vh0 vo xs u ul) (hb : Below w2.heap.size w2 w3) (hv : w3.ownsRow (w2.heap.size + 2) 90 3 v hs'.length (hs'.flatMap Hd.cells)) :
    DXr S w ((((((w3.setCell ⟨w.heap.size, 0, none⟩ (.int .i64 N)).setCell ⟨w.heap.size, 1, none⟩ vl).setCell ⟨w.heap.size, 2, none⟩ v).setCell ⟨w.heap.size, 3, none⟩ vo).setCell ⟨w.heap.size, 4, none⟩ (.int .i64 r)).setCell ⟨w.heap.size, 5, none⟩ (.int .i64 d)) N ls hs' lo r d vl v vo xs u ul := by
  have hs2 := h.dr.size
  have hF : ∀ b, Fs S w w2 b → Fx S w w3 v b := fun b hb' => ⟨Fs.mono hb b hb', fun e => by have := (hv.lt b e).1; have := hb'.1; omega⟩
  refine ⟨((((((h.dr.next hb).set 0 _).set 1 _).set 2 _).set 3 _).set 4 _).set 5 _, ?_, ?_, ?_, h.nl, h.no, ?_⟩
  · exact (((h.loops.same (Fs.grow hb)).mono hF).same (Fx.same6 _ _ _ _ _ _)).mono fun b => Fx.set6 _ _ _ _ _ _
  · exact own_box (own_box (own_box (own_box (own_box (own_box (own_lower (base' := w.heap.size + 3) hv (by omega)) (by omega) _) (by omega) _) (by omega) _) (by omega) _) (by omega) _) (by omega) _
  · exact (((h.loose.same (Fs.grow hb)).mono hF).same (Fx.same6 _ _ _ _ _ _)).mono fun b => Fx.set6 _ _ _ _ _ _
  · exact (((h.ex.same (Fs.grow hb)).mono hF).same (Fx.same6 _ _ _ _ _ _)).mono fun b => Fx.set6 _ _ _ _ _ _
theorem DR.next3 {cs : List Value} (h : DR w w1 cs xs) (hb : Below (w.heap.size + 3) w1 w2) : DR w w2 cs xs :=
  ⟨h.below.trans (hb.mono (by omega)), h.s.of_eq (hb.block _ (by omega)), h.x.of_eq (hb.block _ (by omega)), h.r.of_eq (hb.block _ (by omega))⟩
/-- one loop more is held -/
theorem DXr.app (h : DXr S w w1 N ls hs lo r d vl vh vo xs u ul) {z n : Nat} {us : List Value} (hv : w2.ownsRow (w.heap.size + 3) 90 3 v' n us) (hb : Below (w.heap.size + 3) w1 w2) (hg : w1.grownBy w2 vh.ownBlock) (ho : v'.ownBlock = vh.ownBlock ∨ v'.ownBlock = some z) (hz : w1.heap.size ≤ z)
    (hn : n = hs'.length) (hus : us = hs'.flatMap Hd.cells) : DXr S w (w2.setCell ⟨w.heap.size, 2, none⟩ v') N ls hs' lo r d vl v' vo xs u ul := by
  subst hn hus
  have hS : Same (Fx S w w1 vh) w1 w2 := fun b hb' => hg.block b hb'.1.1 (Ne.symm hb'.2)
  have hM : ∀ b, Fx S w w1 vh b → Fx S w w2 v' b := fun b hb' => ⟨⟨Nat.lt_of_lt_of_le hb'.1.1 hg.size, hb'.1.2⟩, by
    rcases ho with e | e
    · rw [e]; exact hb'.2
    · rw [e]; intro c; injection c with c; have := hb'.1.1; omega⟩
  exact ⟨(h.dr.next3 hb).set 2 _, (((h.loops.same hS).mono hM).same (Fx.set _ _)).mono (Fx.sub _ _), own_box hv (by omega) _, (((h.loose.same hS).mono hM).same (Fx.set _ _)).mono (Fx.sub _ _), h.nl, h.no, (((h.ex.same hS).mono hM).same (Fx.set _ _)).mono (Fx.sub _ _)⟩
/-- one loop more -/
theorem DXr.growL {wz w5 : World} {u' : Value} {tv : Nat → Value} {c : Int} {l : List Int} {n : Nat} {us : List Value}
    (h : DXr S w wz N ls hs lo r d vl vh vo xs u ul) (ht : ∀ i, i < ls.length → Ints wz (Fx S w wz vh) (tv i) (ls.getD i noLop).thr) (hu : Ints wz (Fx S w wz vh) u' l) (hb : Below wz.heap.size wz w5) (hv : w5.ownsRow wz.heap.size 41 2 v' n us) (hn : n = ls.length + 1) (hus : us = lrow ls tv ++ [.int .i64 c, u']) :
    DXr S w (w5.setCell ⟨w.heap.size, 1, none⟩ v') N (ls ++ [⟨c, l⟩]) hs lo r d v' vh vo xs u ul := by
  have hsz := h.dr.size
  have hv2 : w5.ownsRow wz.heap.size 41 2 v' n (lrow (ls ++ [⟨c, l⟩]) fun i => if i = ls.length then u' else tv i) := by rw [lrow_snoc ls tv ⟨c, l⟩ u', ← hus]; exact hv
  refine (h.next hb).setL (LoopsRd.of_own hv2 (by simp [hn]) (fun b h1 h2 => ⟨⟨h2, by omega, by omega, .inr (by omega)⟩, fun e => by have := (h.held.lt b e).2; omega⟩) ?_) (.of_own hv)
  · intro i hi
    rw [List.length_append, List.length_singleton] at hi
    by_cases e : i = ls.length
    · subst e
      simp only [if_true]
      simpa using (hu.same (Fx.grow hb)).mono (Fx.mono hb)
    · rw [if_neg e, show (ls ++ [(⟨c, l⟩ : Lop)]).getD i noLop = ls.getD i noLop by simp [List.getD, List.getElem?_append_left (show i < ls.length by omega)]]
      exact ((ht i (by omega)).same (Fx.grow hb)).mono (Fx.mono hb)
theorem DXr.growO {wz w5 : World} {lo' : List Int} (h : DXr S w wz N ls hs lo r d vl vh vo xs u ul) (hb : Below wz.heap.size wz w5) (hv : w5.ownsRow wz.heap.size 3 1 v' lo'.length (ints lo')) :
    DXr S w (w5.setCell ⟨w.heap.size, 3, none⟩ v') N ls hs lo' r d vl vh v' xs u ul := by
  have hs := h.dr.size
  exact (h.next hb).setO ((Ints.of_own hv).mono fun b hb' => ⟨⟨hb'.2, by omega, by omega, .inr (by omega)⟩, fun e => by have := (h.held.lt b e).2; omega⟩) (.of_own hv)
end
end Go.Proofs.Ytaacfjeddoekfaa
