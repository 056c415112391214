import Derived.Test.YtmmakljmikdooaaDoorTw2
import Derived.Test.YtmmakljmikdooaaDoorSeqIn
/- lib/Plan's law within a round of a loop over an iterator, at the wide fence. -/
namespace Go.Proofs.YtmmakljmikdooaaDoor
open Go.RowKit
set_option linter.unusedVariables false

section
variable {P : Program} {ops : Array Oper} {md : Region.Mode} {S : World → Prop} {Q : Exit → Act → World → Prop} {n l z : Nat}

/-- ends in one way alone -/
def onlyN (Q : Exit → Act → World → Prop) : Exit → Act → World → Prop := fun e a w => e = .normal ∧ Q .normal a w
theorem onlyN_out : ¬ LetsOut (onlyN Q) := fun ⟨a, w, h, _⟩ => by cases h
theorem rowsIn_of {row : String} {args : Array Value} {w : World} {R : Value → World → Prop} (h : Rows P row args w R) : RowsIn (Fence.wide.inRound l) n P row args w R :=
  fun c cs _ => let ⟨v, w', r, s⟩ := h c cs; ⟨v, w', r, stepsIn_wide.2 s⟩
theorem wpOpIn_of {i : Nat} {K K' : Act → World → Prop} {a : Act} {w : World} (hd : noDefer ops = true) (hK : ∀ a w, K a w → K' a w) (h : wpOp P ops (onlyN Q) i K a w) : wpOpIn (Fence.wide.inRound l) n P ops Q i K' a w := by
  unfold Go.wpOp at h
  unfold Go.wpOpIn
  cases hi : ops[i]? with
  | none =>
    simp only [hi] at h ⊢
    exact hK _ _ h
  | some o =>
    simp only [hi] at h ⊢
    by_cases hw : Region.wanted o (yielded ops a.tmps) = true
    · simp only [hw, if_true] at h ⊢
      rcases h with h | h
      · refine ⟨fun _ _ => trivial, ?_⟩
        have e : (Fence.wide.inRound l).round = some l := rfl
        rw [e, Oper.semAt_eq _ _ _ (noDefer_spec hd hi)]
        unfold Oper.wp at h
        generalize (execOp a.eval o).run P w = r at *
        cases r with
        | ok n' w' =>
          cases n' <;> simp only [Oper.upon] at h <;> simp only [Oper.uponIn]
          case value u => exact hK _ _ h
          case skip => exact hK _ _ h
          case defer d => exact hK _ _ h
          case enter f args =>
            refine ⟨fun hd => (by cases hd), ?_⟩
            refine (CallsIn.inRound l (callsIn_wide.2 h)).mono fun e w'' he => ?_
            cases e with
            | returned v => exact hK _ _ he
            | panicked c => exact absurd he.1 (by simp)
            | outgrown => exact absurd he onlyN_out
          case row row args => exact ⟨fun hd => (by cases hd), RowsIn.mono (rowsIn_of h) fun v w'' he => hK _ _ he⟩
        | halt x w' =>
          cases x with
          | panic v => exact absurd h.1 (by simp)
          | _ => exact absurd h (by simp [Oper.upon])
      · exact absurd h.2 onlyN_out
    · have hw' : Region.wanted o (yielded ops a.tmps) = false := by simpa using hw
      simp only [hw', Bool.false_eq_true, if_false] at h ⊢
      exact ⟨fun _ _ => trivial, hK _ _ h⟩
theorem wpAnyIn_of (hd : noDefer ops = true) : ∀ (fuel : Nat) (listed : Array Bool) (a : Act) (w : World), wpAny P md ops (onlyN Q) fuel listed a w → wpAnyIn (Fence.wide.inRound l) n P md ops Q fuel listed a w
  | 0, _, _, _, h => ⟨h.1, h.2.2⟩
  | fuel + 1, listed, a, w, h => ⟨fun h0 => (h.1 h0).2, fun i hi => wpOpIn_of hd (fun a' w' h' => wpAnyIn_of hd fuel _ a' w' h') (h.2 i hi)⟩
/-- the whole region, along a plan, within a round -/
theorem wpIn_region_plan {id : Nat} {a : Act} {w : World} (plan : List (Bool × Nat)) (z : Nat) (S : World → Prop) (hm : P.follows .mixedOrders = true) (hd : noDefer ops = true) (hsel : Region.noSelect ops = true)
    (hok : okPlan .any ops z plan (Array.replicate ops.size false) = true) (hlen : plan.length = ops.size) (hS : S w.drew)
    (h : Plan P ops (onlyN Q) S z plan a w.drew) : (Code.region id ops true).wpIn (Fence.wide.inRound l) n P Q a w := by
  refine wpIn_region_any hm ?_
  have := plan_G hsel (fun _ _ _ _ _ h => absurd h.1 (by simp)) plan _ a w.drew hok (.inl hS) h
  rw [hlen] at this
  exact wpAnyIn_of hd _ _ _ _ (wpAny_of_G (S := S) (z := z) _ _ _ _ this)
theorem plan_endN {a : Act} {w : World} (h : Q .normal a w) : Plan P ops (onlyN Q) S z [] a w := ⟨rfl, h⟩
theorem wpIn_of_wp {o : Oper} {K : Act → World → Prop} {a : Act} {w : World} (hd : ∀ c, o.op ≠ .defer c) (h : o.wp P a w K (onlyN Q)) : o.wpIn (Fence.wide.inRound l) n P a w K Q := by
  refine ⟨fun _ _ => trivial, ?_⟩
  have e : (Fence.wide.inRound l).round = some l := rfl
  rw [e, Oper.semAt_eq _ _ _ hd]
  unfold Oper.wp at h
  generalize (execOp a.eval o).run P w = r at *
  cases r with
  | ok n' w' =>
    cases n' <;> simp only [Oper.upon] at h <;> simp only [Oper.uponIn]
    case value u => exact h
    case skip => exact h
    case defer d => exact h
    case enter f args =>
      refine ⟨fun hd => (by cases hd), ?_⟩
      refine (CallsIn.inRound l (callsIn_wide.2 h)).mono fun e w'' he => ?_
      cases e with
      | returned v => exact he
      | panicked c => exact absurd he.1 (by simp)
      | outgrown => exact absurd he onlyN_out
    case row row args => exact ⟨fun hd => (by cases hd), RowsIn.mono (rowsIn_of h) fun v w'' he => he⟩
  | halt x w' =>
    cases x with
    | panic v => exact absurd h.1 (by simp)
    | _ => exact absurd h (by simp [Oper.upon])
/-- 'out = append(out, x)' in a plain region within a round -/
theorem app_elIn {w w0 : World} {rest : List Oper} {o : Oper} {a : Act} {s x : Operand} {t e : TypeId} {zv : Value} {size bytes : Nat}
    (T : SliceT P t e zv size bytes) (us : List Value) {base : Nat} {v : Value} {k : Nat} {xs : List Value} {et : TypeId}
    (hown : w.ownsRow base e size v k xs) (hb : Below base w0 w) (hbase : base ≤ w0.heap.size)
    (hgd : o.guard = none)
    (ho : o.op = .call { callee := .builtin .append, args := #[s, x], argTypes := #[t, t] })
    (hs : a.eval s = v) (hx : a.eval x = .slice (some ⟨w.heap.size, 0, none⟩) 1 1)
    (hl : us.length = size) (h1 : ∀ u ∈ us, u.oneCell' = true) (hbytes : (k + 1) * bytes ≤ 140737488355328)
    (h : ∀ v' w', w'.ownsRow base e size v' (k + 1) (xs ++ us) → Below base w0 w' → w.grownBy w' v.ownBlock → (v'.ownBlock = v.ownBlock ∨ v'.ownBlock = some (w.heap.size + 1)) →
      wpListIn (Fence.wide.inRound l) n P ops Q rest (a.put o.dst v') w') : wpListIn (Fence.wide.inRound l) n P ops Q (o :: rest) a (w.alloc (.cells us.toArray et)) :=
  wpListIn_plain hgd fun K hK =>
    wpIn_of_wp (fun c hc => by rw [ho] at hc; cases hc) (wp_app T us (hown.alloc _) (hb.alloc (Nat.le_trans hbase hb.size) _) hbase ho hs hx (by simpa using hl) (news_alloc w us et) h1 hbytes
      fun v' w' h2 h3 h4 h5 => hK _ _ (h v' w' h2 h3 (grownBy_alloc_first h4) (by simpa using h5)))
end
end Go.Proofs.YtmmakljmikdooaaDoor
