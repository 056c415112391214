/- Slices of structs: every element's cells. -/
import Derived.Test.YtaacfjeddoekfaaLib
namespace Go.Proofs.Ytaacfjeddoekfaa
open Go.RowKit
set_option linter.unusedVariables false

theorem flat_get {α β : Type} {f : α → List β} {n : Nat} (hf : ∀ a, (f a).length = n) (xs : List α) {k j : Nat} (hk : k < xs.length) (hj : j < n) : (xs.flatMap f)[k * n + j]? = (f xs[k])[j]? := by
  induction xs generalizing k with
  | nil => simp at hk
  | cons x xs ih =>
    rw [List.flatMap_cons]
    cases k with
    | zero => rw [Nat.zero_mul, Nat.zero_add, List.getElem?_append_left (by rw [hf]; exact hj)]; rfl
    | succ k =>
      have e : (k + 1) * n + j = n + (k * n + j) := by rw [Nat.add_mul, Nat.one_mul]; omega
      rw [e, List.getElem?_append_right (by rw [hf]; omega), hf, Nat.add_sub_cancel_left, ih (by simpa using hk)]
      rfl
theorem flat_len {α β : Type} {f : α → List β} {n : Nat} (hf : ∀ a, (f a).length = n) (xs : List α) : (xs.flatMap f).length = xs.length * n := by
  induction xs with
  | nil => simp
  | cons x xs ih => rw [List.flatMap_cons, List.length_append, ih, hf, List.length_cons, Nat.add_mul]; omega

/-- a slice of structs of n cells reads as xs, in blocks of S -/
def Els {α : Type} (f : α → List Value) (n : Nat) (w : World) (S : Nat → Prop) (v : Value) (xs : List α) : Prop :=
  ∃ A c, v = .slice A xs.length c ∧ xs.length ≤ c ∧ c ≤ maxLen ∧ Row w S n A xs.length (xs.flatMap f)
section
variable {α : Type} {f : α → List Value} {n : Nat} {w w' : World} {S T : Nat → Prop} {v : Value} {xs : List α}
theorem Els.same (h : Els f n w S v xs) (k : Same S w w') : Els f n w' S v xs := by
  obtain ⟨A, c, e, h1, h2, h3⟩ := h
  exact ⟨A, c, e, h1, h2, h3.same k⟩
theorem Els.mono (h : Els f n w S v xs) (k : ∀ i, S i → T i) : Els f n w T v xs := by
  obtain ⟨A, c, e, h1, h2, h3⟩ := h
  exact ⟨A, c, e, h1, h2, h3.mono k⟩
theorem els_at {A : Option Addr} (hf : ∀ a, (f a).length = n) (h : Row w S n A xs.length (xs.flatMap f)) (hn : 0 < n) {k : Nat} (hk : k < xs.length) :
    ∃ b o, A = some ⟨b, o, none⟩ ∧ S b ∧ ∀ j u, (f xs[k])[j]? = some u → w.cell? ⟨b, o + (k * n + j), none⟩ = some u := by
  obtain ⟨b, o, e, hs, hc⟩ := h.at_ (by omega)
  refine ⟨b, o, e, hs, fun j u hu => hc _ _ ?_⟩
  have hj : j < n := by
    have := (List.getElem?_eq_some_iff.1 hu).1
    rwa [hf] at this
  rw [flat_get hf xs hk hj, hu]
end
end Go.Proofs.Ytaacfjeddoekfaa
