/- Chapter 15, plain: the nearest of some; append of several. -/
import Derived.Test.YtmjhhaejiabkdaaMixWalk1
import Derived.Laws.OwnMore
import Derived.Laws.Externs
namespace Go.Proofs.Ytmjhhaejiabkdaa
open Go.RowKit Go.Proofs.Ytmjhhaejiabkdaa.Fl
set_option linter.unusedVariables false

section
variable {P : Program}
/-- 'append(s, x...)' in a plain region -/
theorem app_els {w w0 : World} {ops : Array Oper} {rest : List Oper} {o : Oper} {a : Act} {Q : Exit → Act → World → Prop} {s x : Operand} {t e : TypeId} {z : Value} {size bytes : Nat}
    (T : SliceT P t e z size bytes) (us : List Value) {base : Nat} {v : Value} {n m g p c : Nat} {xs : List Value}
    (hown : w.ownsRow base e size v n xs) (hb : Below base w0 w) (hbase : base ≤ w0.heap.size)
    (hgd : o.guard = none)
    (ho : o.op = .call { callee := .builtin .append, args := #[s, x], argTypes := #[t, t] })
    (hs : a.eval s = v) (hx : a.eval x = .slice (some ⟨g, p, none⟩) m c)
    (hl : us.length = m * size) (hnews : ∀ j u, us[j]? = some u → w.cell? ⟨g, p + j, none⟩ = some u) (h1 : ∀ u ∈ us, u.oneCell' = true) (hbytes : (n + m) * bytes ≤ 140737488355328)
    (h : ∀ v' w', w'.ownsRow base e size v' (n + m) (xs ++ us) → Below base w0 w' → w.grownBy w' v.ownBlock → (v'.ownBlock = v.ownBlock ∨ v'.ownBlock = some w.heap.size) →
      wpList P ops Q rest (a.put o.dst v') w') : wpList P ops Q (o :: rest) a w :=
  wpList_plain hgd fun K hK => wp_app T us hown hb hbase ho hs hx hl hnews h1 hbytes fun v' w' h2 h3 h4 h5 => hK _ _ (h v' w' h2 h3 h4 h5)
end

/-- b is the place of the nearest, the first of them -/
structure Best (f : Nat → Nat) (n b : Nat) : Prop where
  lt : b < n
  le : ∀ j, j < n → V (f b) ≤ V (f j)
  first : ∀ j, j < b → V (f b) < V (f j)
/-- the first k of them seen: b is the best, or nothing was better than the first -/
structure BestTo (f : Nat → Nat) (k b : Nat) : Prop where
  le : ∀ j, j < k → V (f b) ≤ V (f j)
  first : ∀ j, j < b → V (f b) < V (f j)
  zero : b = 0 ∨ b < k
theorem BestTo.start (f : Nat → Nat) : BestTo f 0 0 := ⟨fun _ h => absurd h (by omega), fun _ h => absurd h (by omega), .inl rfl⟩
theorem BestTo.keep {f : Nat → Nat} {k b : Nat} (h : BestTo f k b) (hk : ¬ V (f k) < V (f b)) : BestTo f (k + 1) b :=
  ⟨fun j hj => by rcases Nat.lt_or_eq_of_le (Nat.le_of_lt_succ hj) with h1 | rfl; exact h.le j h1; omega, h.first, h.zero.imp id (fun h => by omega)⟩
theorem BestTo.take {f : Nat → Nat} {k b : Nat} (h : BestTo f k b) (hk : V (f k) < V (f b)) : BestTo f (k + 1) k :=
  ⟨fun j hj => by
    rcases Nat.lt_or_eq_of_le (Nat.le_of_lt_succ hj) with h1 | rfl
    · have := h.le j h1; omega
    · omega, fun j hj => by have := h.le j hj; omega, .inr (by omega)⟩
theorem BestTo.done {f : Nat → Nat} {n b : Nat} (hn : 0 < n) (h : BestTo f n b) : Best f n b := ⟨by rcases h.zero with h | h <;> omega, h.le, h.first⟩
theorem best_ex (f : Nat → Nat) : ∀ k, ∃ b, BestTo f k b
  | 0 => ⟨0, .start f⟩
  | k + 1 => by
    obtain ⟨b, h⟩ := best_ex f k
    by_cases hk : V (f k) < V (f b)
    · exact ⟨k, h.take hk⟩
    · exact ⟨b, h.keep hk⟩
theorem Best.inj {f : Nat → Nat} {n a b : Nat} (h : Best f n a) (k : Best f n b) : a = b := by
  rcases Nat.lt_trichotomy a b with c | c | c
  · have := k.first a c; have := h.le b k.lt; omega
  · exact c
  · have := h.first b c; have := k.le a h.lt; omega

def noDy : Dy := ⟨0, 0, 0⟩
/-- how far the k-th is -/
noncomputable def farOf (xs : List Dy) (d : Dy) (k : Nat) : Nat := by
  classical
  exact if h : ∃ n, FarIs (xs.getD k noDy) d n ∧ FW n ∧ 0 ≤ V n ∧ (xs.getD k noDy = d → V n = 0) then Classical.choose h else 0
theorem farOf_is {xs : List Dy} {d : Dy} (hd : d.fair = true) (hx : ∀ i (h : i < xs.length), xs[i].fair = true) {k : Nat} (hk : k < xs.length) :
    FarIs xs[k] d (farOf xs d k) ∧ FW (farOf xs d k) ∧ 0 ≤ V (farOf xs d k) ∧ (xs[k] = d → V (farOf xs d k) = 0) := by
  have e : xs.getD k noDy = xs[k] := by simp [hk]
  have h := far_ok (hx k hk) hd
  rw [← e] at h
  unfold farOf
  rw [dif_pos h, ← e]
  exact Classical.choose_spec h
end Go.Proofs.Ytmjhhaejiabkdaa
