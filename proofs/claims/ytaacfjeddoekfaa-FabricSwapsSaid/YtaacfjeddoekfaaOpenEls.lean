/- Arguments opened: slices of elements of several cells. -/
import Derived.Test.YtaacfjeddoekfaaPost
import Derived.Test.YtaacfjeddoekfaaLib2
import Derived.Deep.Slices
import Derived.ChangeArms
namespace Go.Proofs.Ytaacfjeddoekfaa
open Go.ChangeShapes Go.WideShapes Go.ChangeAt Go.RowKit
set_option linter.unusedVariables false
section
variable {H : Type} {enc : TypeId × Value → H} {P : Program}

theorem trod_f64 {w : World} {base : Nat} {spare : Nat → Bool} {held : Bool} {fuel : Nat} {t : TypeId} {cs : List Value} {x : DataW H × List MemPlace} (ht : P.underlying t = some (.float .f64)) (h : DataW.trod enc P w base spare held fuel t cs = some x) :
    ∃ b, cs = [.float .f64 b] := by
  cases fuel with
  | zero => simp [DataW.trod] at h
  | succ n =>
    unfold DataW.trod at h
    rw [ht] at h
    split at h <;> simp_all

theorem open_Els {α : Type} (f : α → List Value) {n : Nat} (ok : α → Prop) (hf : ∀ a, (f a).length = n) (hn : 0 < n) {W : World} {r : Reach} {b0 : Nat} {t e : TypeId} {v : Value} {d : DataW H} {p : List MemPlace}
    (ht : P.underlying t = some (.slice e)) (hC : P.cellsOf e = n)
    (good : ∀ (fuel : Nat) (cs : List Value) (x : DataW H × List MemPlace), cs.length = n → DataW.trod enc P W 0 (fun _ => true) true fuel e cs = some x → ∃ a, cs = f a ∧ ok a)
    (hv : Value.okWide P W r b0 t v) (h : DataW.Trod enc P W 0 (fun _ => true) true t v d p) :
    ∃ xs : List α, (∀ x ∈ xs, ok x) ∧ Els f n W (fun b => b < W.heap.size) v xs := by
  obtain ⟨a0, len0, cap0, rfl⟩ := okWide_slice ht hv
  obtain ⟨fuel, hf0⟩ := h
  have hf' : DataW.trod enc P W 0 (fun _ => true) true fuel t [.slice a0 len0 cap0] = some (d, p) := by simpa [Value.cells] using hf0
  rcases Go.Deep.open_slice ht hf' with ⟨hcs, _⟩ | ⟨a, len, cap, m, k, D, Pl, hcs, _, hl, hm, hmm, _, hi⟩
  · simp only [List.cons.injEq, Value.slice.injEq, and_true] at hcs
    obtain ⟨rfl, rfl, rfl⟩ := hcs
    exact ⟨[], by simp, none, 0, rfl, Nat.le_refl _, by simp [maxLen], .nil _ _ _ _⟩
  · simp only [List.cons.injEq, Value.slice.injEq, and_true] at hcs
    obtain ⟨rfl, rfl, rfl⟩ := hcs
    simp only [if_true] at hmm
    rw [hC] at hi
    have hx : ∀ i : Fin len0, ∃ y : α, ok y ∧ ∀ j u, (f y)[j]? = some u → W.cell? ((a.add (i.1 * n)).add j) = some u := by
      intro i
      obtain ⟨cs', hc, htr⟩ := hi i.1 (by have := i.2; omega)
      obtain ⟨_, hlen, hcell⟩ := World.cells?_some hc
      obtain ⟨y, rfl, hok⟩ := good _ _ _ hlen htr
      refine ⟨y, hok, fun j u hu => ?_⟩
      have hj : j < n := by
        have := (List.getElem?_eq_some_iff.1 hu).1
        rwa [hf] at this
      rw [hcell j hj, hu]
    have hy : ∃ g : Fin len0 → α, ∀ i, ok (g i) ∧ ∀ j u, (f (g i))[j]? = some u → W.cell? ((a.add (i.1 * n)).add j) = some u := ⟨fun i => Classical.choose (hx i), fun i => Classical.choose_spec (hx i)⟩
    obtain ⟨g, hg⟩ := hy
    refine ⟨List.ofFn g, fun x hx' => ?_, some a, cap0, by simp, by simpa using hl, hm, ?_⟩
    · obtain ⟨i, rfl⟩ := (List.mem_ofFn).1 hx'
      exact (hg i).1
    · refine ⟨flat_len hf _, fun hp => ?_⟩
      simp only [List.length_ofFn] at hp
      have h0 := (hg ⟨0, hp⟩).2 0 ((f (g ⟨0, hp⟩))[0]'(by rw [hf]; exact hn)) (List.getElem?_eq_getElem _)
      obtain ⟨b, off, spot⟩ := a
      have hspot : spot = none := by simpa [Addr.add] using World.cell?_spot h0
      subst hspot
      refine ⟨b, off, rfl, ?_, fun j u hu => ?_⟩
      · have := World.block_lt_of_cell? W _ h0
        simpa [Addr.add] using this
      · have hj : j < len0 * n := by
          have := (List.getElem?_eq_some_iff.1 hu).1
          rw [flat_len hf, List.length_ofFn] at this
          exact this
        have hk : j / n < len0 := Nat.div_lt_of_lt_mul (by rw [Nat.mul_comm]; exact hj)
        have hjn : j / n * n + j % n = j := by rw [Nat.mul_comm]; exact Nat.div_add_mod j n
        have hk2 : j / n < (List.ofFn g).length := by simpa using hk
        have e := flat_get hf (List.ofFn g) hk2 (Nat.mod_lt j hn)
        rw [hjn, hu, List.getElem_ofFn] at e
        have := (hg ⟨j / n, hk⟩).2 (j % n) u e.symm
        rw [Go.WideShapes.add_plain, Go.WideShapes.add_plain] at this
        rw [← hjn, ← Nat.add_assoc]
        exact this
end
end Go.Proofs.Ytaacfjeddoekfaa
