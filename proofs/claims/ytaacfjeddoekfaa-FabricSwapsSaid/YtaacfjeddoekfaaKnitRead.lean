/- Chapter 11: what is told of a machine, in memory. -/
import Derived.Test.YtaacfjeddoekfaaKnitWalk2
namespace Go.Proofs.Ytaacfjeddoekfaa
open Go.RowKit
set_option linter.unusedVariables false

/-- a slice of loops reads as ls -/
def LoopsRd (w : World) (S : Nat → Prop) (v : Value) (ls : List Lop) : Prop :=
  ∃ A c tv, v = .slice A ls.length c ∧ ls.length ≤ c ∧ c ≤ maxLen ∧ Row w S 2 A ls.length (lrow ls tv) ∧ ∀ i, i < ls.length → Ints w S (tv i) (ls.getD i noLop).thr
def vrow (n : Nat) (tv : Nat → Value) : List Value := (List.range n).map tv
/-- a slice of slices of ints reads as xs -/
def ListsRd (w : World) (S : Nat → Prop) (v : Value) (xs : List (List Int)) : Prop :=
  ∃ A c tv, v = .slice A xs.length c ∧ xs.length ≤ c ∧ c ≤ maxLen ∧ Row w S 1 A xs.length (vrow xs.length tv) ∧ ∀ i, i < xs.length → Ints w S (tv i) (xs.getD i [])
def KnR (w : World) (S : Nat → Prop) (v : Value) (k : Kn) : Prop :=
  ∃ vl vf vb vo, v = .agg #[vl, vf, vb, vo, .int .i64 k.rack] ∧ LoopsRd w S vl k.loops ∧ ListsRd w S vf k.front ∧ ListsRd w S vb k.back ∧ Ints w S vo k.loose
section
variable {w w' : World} {S T : Nat → Prop} {v : Value}
theorem LoopsRd.same {ls : List Lop} (h : LoopsRd w S v ls) (k : Same S w w') : LoopsRd w' S v ls := by
  obtain ⟨A, c, tv, e, h1, h2, h3, h4⟩ := h
  exact ⟨A, c, tv, e, h1, h2, h3.same k, fun i hi => (h4 i hi).same k⟩
theorem LoopsRd.mono {ls : List Lop} (h : LoopsRd w S v ls) (k : ∀ i, S i → T i) : LoopsRd w T v ls := by
  obtain ⟨A, c, tv, e, h1, h2, h3, h4⟩ := h
  exact ⟨A, c, tv, e, h1, h2, h3.mono k, fun i hi => (h4 i hi).mono k⟩
theorem ListsRd.same {xs : List (List Int)} (h : ListsRd w S v xs) (k : Same S w w') : ListsRd w' S v xs := by
  obtain ⟨A, c, tv, e, h1, h2, h3, h4⟩ := h
  exact ⟨A, c, tv, e, h1, h2, h3.same k, fun i hi => (h4 i hi).same k⟩
theorem ListsRd.mono {xs : List (List Int)} (h : ListsRd w S v xs) (k : ∀ i, S i → T i) : ListsRd w T v xs := by
  obtain ⟨A, c, tv, e, h1, h2, h3, h4⟩ := h
  exact ⟨A, c, tv, e, h1, h2, h3.mono k, fun i hi => (h4 i hi).mono k⟩
theorem KnR.same {k : Kn} (h : KnR w S v k) (s : Same S w w') : KnR w' S v k := by
  obtain ⟨vl, vf, vb, vo, e, h1, h2, h3, h4⟩ := h
  exact ⟨vl, vf, vb, vo, e, h1.same s, h2.same s, h3.same s, h4.same s⟩
theorem KnR.mono {k : Kn} (h : KnR w S v k) (s : ∀ i, S i → T i) : KnR w T v k := by
  obtain ⟨vl, vf, vb, vo, e, h1, h2, h3, h4⟩ := h
  exact ⟨vl, vf, vb, vo, e, h1.mono s, h2.mono s, h3.mono s, h4.mono s⟩
theorem KnR.grown {k : Kn} {B : Nat} (h : KnR w (fun b => B ≤ b ∧ b < w.heap.size) v k) (hb : Below w.heap.size w w') : KnR w' (fun b => B ≤ b ∧ b < w'.heap.size) v k :=
  (h.same fun b hb' => hb.block b hb'.2).mono fun i hi => ⟨hi.1, Nat.lt_of_lt_of_le hi.2 hb.size⟩
theorem ListsRd.nil (w : World) (S : Nat → Prop) : ListsRd w S nils [] := ⟨none, 0, fun _ => nils, rfl, Nat.le_refl _, by simp [maxLen], .nil _ _ _ _, fun i h => by simp at h⟩
theorem LoopsRd.nil (w : World) (S : Nat → Prop) : LoopsRd w S nils [] := ⟨none, 0, fun _ => nils, rfl, Nat.le_refl _, by simp [maxLen], .nil _ _ _ _, fun i h => by simp at h⟩
end
theorem noKn_R (w : World) (S : Nat → Prop) : KnR w S (.agg #[nils, nils, nils, nils, .int .i64 0]) noKn := ⟨_, _, _, _, rfl, LoopsRd.nil _ _, ListsRd.nil _ _, ListsRd.nil _ _, Ints.nil _ _⟩
theorem vrow_len (n : Nat) (tv : Nat → Value) : (vrow n tv).length = n := by simp [vrow]
theorem vrow_snoc (n : Nat) (tv : Nat → Value) (u : Value) : vrow (n + 1) (fun i => if i = n then u else tv i) = vrow n tv ++ [u] := by
  unfold vrow
  rw [List.range_succ, List.map_append]
  congr 1
  · refine List.map_congr_left fun i hi => ?_
    rw [if_neg (by have : i < n := by simpa using hi
                   omega)]
  · simp
theorem lrow_get {ls : List Lop} (tv : Nat → Value) {i : Nat} (hi : i < ls.length) : (lrow ls tv)[i * 2]? = some (.int .i64 (ls.getD i noLop).car) ∧ (lrow ls tv)[i * 2 + 1]? = some (tv i) := by
  unfold lrow
  constructor
  · rw [show i * 2 = i * 2 + 0 from rfl, flat_get (n := 2) (f := fun i => [Value.int .i64 (ls.getD i noLop).car, tv i]) (fun _ => rfl) (List.range ls.length) (by simpa using hi) (by decide)]
    simp
  · rw [flat_get (n := 2) (f := fun i => [Value.int .i64 (ls.getD i noLop).car, tv i]) (fun _ => rfl) (List.range ls.length) (by simpa using hi) (by decide)]
    simp
theorem vrow_get (n : Nat) (tv : Nat → Value) {i : Nat} (hi : i < n) : (vrow n tv)[i]? = some (tv i) := by unfold vrow; simp [hi]
/-- loop i of a row of loops -/
theorem loop_cells {w : World} {S : Nat → Prop} {A : Option Addr} {ls : List Lop} {tv : Nat → Value} (h : Row w S 2 A ls.length (lrow ls tv)) {i : Nat} (hi : i < ls.length) :
    ∃ b o, A = some ⟨b, o, none⟩ ∧ S b ∧ w.cell? ⟨b, o + i * 2, none⟩ = some (.int .i64 (ls.getD i noLop).car) ∧ w.cell? ⟨b, o + i * 2 + 1, none⟩ = some (tv i) := by
  obtain ⟨b, o, e, hs, hc⟩ := h.at_ (by omega)
  exact ⟨b, o, e, hs, hc _ _ (lrow_get tv hi).1, hc _ _ (lrow_get tv hi).2⟩
theorem list_cell {w : World} {S : Nat → Prop} {A : Option Addr} {n : Nat} {tv : Nat → Value} (h : Row w S 1 A n (vrow n tv)) {i : Nat} (hi : i < n) :
    ∃ b o, A = some ⟨b, o, none⟩ ∧ S b ∧ w.cell? ⟨b, o + i, none⟩ = some (tv i) := by
  obtain ⟨b, o, e, hs, hc⟩ := h.at_ (by omega)
  exact ⟨b, o, e, hs, hc _ _ (vrow_get n tv hi)⟩
end Go.Proofs.Ytaacfjeddoekfaa
