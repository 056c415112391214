import Derived.Test.YtmmakljmikdooaaDoorTw2
import Derived.Laws.OwnMore
/- A region that draws its order, walked along a tree: where two operations may come up that both write, each is tried. -/
namespace Go.Proofs.YtmmakljmikdooaaDoor
open Go.RowKit
set_option linter.unusedVariables false

/-- what is appended: nil, or m elements that lie somewhere -/
def News (w : World) (u : Value) (m : Nat) (us : List Value) : Prop :=
  (u = .slice none 0 0 ∧ m = 0 ∧ us = []) ∨ ∃ g p c, u = .slice (some ⟨g, p, none⟩) m c ∧ ∀ j x, us[j]? = some x → w.cell? ⟨g, p + j, none⟩ = some x
theorem News.keep {w w' : World} {u : Value} {m : Nat} {us : List Value} (h : News w u m us) (hb : ∀ b, b < w.heap.size → w'.heap[b]? = w.heap[b]?) : News w' u m us := by
  rcases h with h | ⟨g, p, c, e, hc⟩
  · exact .inl h
  · exact .inr ⟨g, p, c, e, fun j x hx => (World.cell?_of_block (a := ⟨g, p + j, none⟩) (hb g (World.block_lt_of_cell? w _ (hc j x hx)))).trans (hc j x hx)⟩
theorem News.of_own {w : World} {base : Nat} {e : TypeId} {size n : Nat} {v : Value} {xs : List Value} (h : w.ownsRow base e size v n xs) (hs : 0 < size) : News w v n xs := by
  rcases h.2 with ⟨hv, h0⟩ | ⟨g, cap, cur, rfl, hb, hg, hn, hm, _⟩
  · refine .inl ⟨hv, h0, ?_⟩
    have := h.1
    rw [h0, Nat.zero_mul] at this
    exact List.length_eq_zero_iff.1 this
  · refine .inr ⟨g, 0, cap, rfl, fun j u hu => ?_⟩
    have := h.cells (g := g) rfl j u hu
    unfold Addr.add at this
    split at this
    · next h0 => subst h0; simpa using this
    · simpa using this
theorem wp_appA {P : Program} {W w0 : World} {o : Oper} {a : Act} {K : Act → World → Prop} {Q : Exit → Act → World → Prop} {s x : Operand} {t e : TypeId} {z : Value} {size bytes : Nat}
    (T : SliceT P t e z size bytes) (us : List Value) {base : Nat} {v u : Value} {n m : Nat} {xs : List Value}
    (hown : W.ownsRow base e size v n xs) (hb : Below base w0 W) (hbase : base ≤ w0.heap.size)
    (ho : o.op = .call { callee := .builtin .append, args := #[s, x], argTypes := #[t, t] })
    (hs : a.eval s = v) (hx : a.eval x = u) (hu : News W u m us)
    (hl : us.length = m * size) (h1 : ∀ u ∈ us, u.oneCell' = true) (hbytes : (n + m) * bytes ≤ 140737488355328)
    (h : ∀ v' w', w'.ownsRow base e size v' (n + m) (xs ++ us) → Below base w0 w' → W.grownBy w' v.ownBlock → (v'.ownBlock = v.ownBlock ∨ v'.ownBlock = some W.heap.size) →
      K (a.put o.dst v') w') : o.wp P a W K Q := by
  rcases hu with ⟨rfl, rfl, rfl⟩ | ⟨g, p, c, rfl, hc⟩
  · obtain ⟨i, hi0, hz, hsize, hby⟩ := info_parts T.hi
    have hrun := run_append_owned_none (P := P) W base t o.type e i size T.ht hi0 v n xs hown
    unfold Oper.wp execOp
    simp only [ho, resolve, invoke, builtin, Sem.run_bind, Sem.run_pure, Result.andThen_ok, List.map_toArray, List.map_cons, List.map_nil, hs, hx, hrun]
    exact h v W (by simpa using hown) hb (World.grownBy.refl _ _) (.inl rfl)
  · exact wp_app T us hown hb hbase ho hs hx hl hc h1 hbytes h
/-- 'append(s, l...)' in a plain region -/
theorem app_elsA {P : Program} {w w0 : World} {ops : Array Oper} {rest : List Oper} {o : Oper} {a : Act} {Q : Exit → Act → World → Prop} {s x : Operand} {t e : TypeId} {z : Value} {size bytes : Nat}
    (T : SliceT P t e z size bytes) (us : List Value) {base : Nat} {v u : Value} {n m : Nat} {xs : List Value}
    (hown : w.ownsRow base e size v n xs) (hb : Below base w0 w) (hbase : base ≤ w0.heap.size)
    (hgd : o.guard = none)
    (ho : o.op = .call { callee := .builtin .append, args := #[s, x], argTypes := #[t, t] })
    (hs : a.eval s = v) (hx : a.eval x = u) (hu : News w u m us)
    (hl : us.length = m * size) (h1 : ∀ u ∈ us, u.oneCell' = true) (hbytes : (n + m) * bytes ≤ 140737488355328)
    (h : ∀ v' w', w'.ownsRow base e size v' (n + m) (xs ++ us) → Below base w0 w' → w.grownBy w' v.ownBlock → (v'.ownBlock = v.ownBlock ∨ v'.ownBlock = some w.heap.size) →
      wpList P ops Q rest (a.put o.dst v') w') : wpList P ops Q (o :: rest) a w :=
  wpList_plain hgd fun K hK => wp_appA T us hown hb hbase ho hs hx hu hl h1 hbytes fun v' w' h2 h3 h4 h5 => hK _ _ (h v' w' h2 h3 h4 h5)

/-- take i first; i alone may come up; i or j may come up -/
inductive PT
  | nil
  | take (i : Nat) (r : PT)
  | one (i : Nat) (r : PT)
  | two (i : Nat) (r : PT) (j : Nat) (s : PT)
def PT.depth : PT → Nat
  | .nil => 0
  | .take _ r => r.depth + 1
  | .one _ r => r.depth + 1
  | .two _ r _ s => max r.depth s.depth + 1
/-- nothing is taken first any more -/
def PT.late : PT → Bool
  | .nil => true
  | .take _ _ => false
  | .one _ r => r.late
  | .two _ r _ s => r.late && s.late
section
variable {P : Program} {ops : Array Oper} {md : Region.Mode} {S : World → Prop} {Q : Exit → Act → World → Prop} {z : Nat}
def PlanT (P : Program) (ops : Array Oper) (Q : Exit → Act → World → Prop) (S : World → Prop) (z : Nat) : PT → Act → World → Prop
  | .nil, a, w => Q .normal a w
  | .take i r, a, w => ∃ o v, ops[i]? = some o ∧ YieldsIf P ops S o v a ∧ PlanT P ops Q S z r (a.put o.dst v) w
  | .one i r, a, w => wpOp P ops Q i (fun a' w' => (i = z ∨ S w') ∧ PlanT P ops Q S z r a' w') a w
  | .two i r j s, a, w => wpOp P ops Q i (fun a' w' => (i = z ∨ S w') ∧ PlanT P ops Q S z r a' w') a w ∧ wpOp P ops Q j (fun a' w' => (j = z ∨ S w') ∧ PlanT P ops Q S z s a' w') a w
def okPT (md : Region.Mode) (ops : Array Oper) (z : Nat) : PT → Array Bool → Bool
  | .nil, listed => (Region.ready md ops listed).isEmpty
  | .take i r, listed => Region.free md ops listed i && (Region.ready md ops listed).contains i && waits md ops z i && okPT md ops z r (listed.setIfInBounds i true)
  | .one i r, listed => decide (Region.ready md ops listed = [i]) && (decide (i ≠ z) || r.late) && okPT md ops z r (listed.setIfInBounds i true)
  | .two i r j s, listed => decide (Region.ready md ops listed = [i, j]) && (decide (i ≠ z) || r.late) && (decide (j ≠ z) || s.late) && okPT md ops z r (listed.setIfInBounds i true) && okPT md ops z s (listed.setIfInBounds j true)
theorem planT_G (hsel : Region.noSelect ops = true) (hQ : ∀ c a d v w, Q (.panic c) (a.put d v) w → Q (.panic c) a w) : ∀ (t : PT) (fuel : Nat) (listed : Array Bool) (a : Act) (w : World), t.depth ≤ fuel → okPT md ops z t listed = true →
    (S w ∨ t.late = true) → PlanT P ops Q S z t a w → wpAnyG P md ops Q S z fuel listed a w
  | .nil, fuel, listed, a, w, _, hok, _, h => by
    have hr : Region.ready md ops listed = [] := by simpa [okPT] using hok
    cases fuel with
    | zero => exact ⟨hr, h⟩
    | succ n => exact ⟨fun _ => h, by rw [hr]; simp⟩
  | .take i r, 0, listed, a, w, hd, _, _, _ => by simp [PT.depth] at hd
  | .take i r, fuel + 1, listed, a, w, hd, hok, hS, h => by
    unfold okPT at hok
    simp only [Bool.and_eq_true] at hok
    obtain ⟨⟨⟨h1, h2⟩, h3⟩, h4⟩ := hok
    obtain ⟨o, v, ho, hy, hr⟩ := h
    have hS' : S w := hS.resolve_right (by simp [PT.late])
    exact wpAnyG_first ho (Region.noSelect_spec hsel) (fun c a w => hQ c a _ _ w) h3 fuel listed a w (Region.free_spec ho h1) (by simpa using h2) hy hS' (planT_G hsel hQ r fuel _ _ w (by simpa [PT.depth] using hd) h4 (.inl hS') hr)
  | .one i r, 0, listed, a, w, hd, _, _, _ => by simp [PT.depth] at hd
  | .one i r, fuel + 1, listed, a, w, hd, hok, hS, h => by
    unfold okPT at hok
    simp only [Bool.and_eq_true, decide_eq_true_eq, Bool.or_eq_true] at hok
    obtain ⟨⟨h1, h2⟩, h3⟩ := hok
    refine ⟨fun h0 => (by rw [h1] at h0; cases h0), fun j hj => ?_⟩
    rw [h1] at hj
    obtain rfl : j = i := by simpa using hj
    refine wpOp_mono (fun a' w' h' => ⟨h'.1, planT_G hsel hQ r fuel _ a' w' (by simpa [PT.depth] using hd) h3 ?_ h'.2⟩) h
    rcases h'.1 with e | hs
    · rcases h2 with h2 | h2
      · exact absurd e h2
      · exact .inr h2
    · exact .inl hs
  | .two i r j s, 0, listed, a, w, hd, _, _, _ => by simp [PT.depth] at hd
  | .two i r j s, fuel + 1, listed, a, w, hd, hok, hS, h => by
    unfold okPT at hok
    simp only [Bool.and_eq_true, decide_eq_true_eq, Bool.or_eq_true] at hok
    obtain ⟨⟨⟨⟨h1, h2⟩, h2'⟩, h3⟩, h3'⟩ := hok
    have hd1 : r.depth ≤ fuel ∧ s.depth ≤ fuel := by unfold PT.depth at hd; omega
    refine ⟨fun h0 => (by rw [h1] at h0; cases h0), fun k hk => ?_⟩
    rw [h1] at hk
    rcases List.mem_cons.1 hk with rfl | hk
    · refine wpOp_mono (fun a' w' h' => ⟨h'.1, planT_G hsel hQ r fuel _ a' w' hd1.1 h3 ?_ h'.2⟩) h.1
      rcases h'.1 with e | hs
      · rcases h2 with h2 | h2
        · exact absurd e h2
        · exact .inr h2
      · exact .inl hs
    · obtain rfl : k = j := by simpa using hk
      refine wpOp_mono (fun a' w' h' => ⟨h'.1, planT_G hsel hQ s fuel _ a' w' hd1.2 h3' ?_ h'.2⟩) h.2
      rcases h'.1 with e | hs
      · rcases h2' with h2 | h2
        · exact absurd e h2
        · exact .inr h2
      · exact .inl hs
theorem wp_region_planT {id : Nat} {a : Act} {w : World} (t : PT) (z : Nat) (S : World → Prop) (hm : P.follows .mixedOrders = true) (hsel : Region.noSelect ops = true)
    (hok : okPT .any ops z t (Array.replicate ops.size false) = true) (hlen : decide (t.depth ≤ ops.size) = true) (hS : S w.drew)
    (h : PlanT P ops (NoPanic Q) S z t a w.drew) : (Code.region id ops true).wp P Q a w :=
  wp_region_noPanic (wp_region_any hm (wpAny_of_G (S := S) (z := z) _ _ _ _ (planT_G hsel (fun _ _ _ _ _ h => h) t ops.size _ a w.drew (of_decide_eq_true hlen) hok (.inl hS) h)))

section
variable {i j : Nat} {r s : PT} {a : Act} {w : World}
theorem planT_val (o : Oper) (v : Value) (hl0 : ops.toList[i]? = some o) (hw : Region.wanted o (yielded ops a.tmps) = true) (hv : ∀ w, S w → (execOp a.eval o).run P w = .ok (.value v) w)
    (h : PlanT P ops Q S z r (a.put o.dst v) w) : PlanT P ops Q S z (.take i r) a w := ⟨o, v, by simpa using hl0, .inl ⟨hw, hv⟩, h⟩
theorem planT_two (h1 : PlanT P ops Q S z (.one i r) a w) (h2 : PlanT P ops Q S z (.one j s) a w) : PlanT P ops Q S z (.two i r j s) a w := ⟨h1, h2⟩
theorem planT_op (o : Oper) (hl0 : ops.toList[i]? = some o) (hw : Region.wanted o (yielded ops a.tmps) = true) (h : Oper.wp P o a w (fun a' w' => (i = z ∨ S w') ∧ PlanT P ops Q S z r a' w') Q) : PlanT P ops Q S z (.one i r) a w := by
  have ho : ops[i]? = some o := by simpa using hl0
  unfold PlanT Go.wpOp
  simp only [ho, hw, if_true]
  exact .inl h
theorem planT_do (o : Oper) (u : Value) (w' : World) (hl0 : ops.toList[i]? = some o) (hw : Region.wanted o (yielded ops a.tmps) = true) (hv : (execOp a.eval o).run P w = .ok (.value u) w') (hS : i = z ∨ S w')
    (h : PlanT P ops Q S z r (a.put o.dst u) w') : PlanT P ops Q S z (.one i r) a w := by
  refine planT_op o hl0 hw ?_
  simp only [Oper.wp, hv, Oper.upon]
  exact ⟨hS, h⟩
theorem planT_store (o : Oper) (w' : World) (hl0 : ops.toList[i]? = some o) (hw : Region.wanted o (yielded ops a.tmps) = true) (hv : (execOp a.eval o).run P w = .ok .skip w') (hS : i = z ∨ S w')
    (h : PlanT P ops Q S z r (a.put o.dst undef) w') : PlanT P ops Q S z (.one i r) a w := by
  refine planT_op o hl0 hw ?_
  simp only [Oper.wp, hv, Oper.upon]
  exact ⟨hS, h⟩
theorem planT_app {w0 : World} {s' x : Operand} {t e : TypeId} {zv : Value} {size bytes : Nat} (o : Oper)
    (T : SliceT P t e zv size bytes) (us : List Value) {base : Nat} {v : Value} {n m g p c : Nat} {xs : List Value}
    (hown : w.ownsRow base e size v n xs) (hb : Below base w0 w) (hbase : base ≤ w0.heap.size)
    (hl0 : ops.toList[i]? = some o) (hw : Region.wanted o (yielded ops a.tmps) = true)
    (ho : o.op = .call { callee := .builtin .append, args := #[s', x], argTypes := #[t, t] })
    (hs : a.eval s' = v) (hx : a.eval x = .slice (some ⟨g, p, none⟩) m c)
    (hl : us.length = m * size) (hnews : ∀ j u, us[j]? = some u → w.cell? ⟨g, p + j, none⟩ = some u) (h1 : ∀ u ∈ us, u.oneCell' = true) (hbytes : (n + m) * bytes ≤ 140737488355328)
    (h : ∀ v' w', w'.ownsRow base e size v' (n + m) (xs ++ us) → Below base w0 w' → w.grownBy w' v.ownBlock → (v'.ownBlock = v.ownBlock ∨ v'.ownBlock = some w.heap.size) →
      (i = z ∨ S w') ∧ PlanT P ops Q S z r (a.put o.dst v') w') : PlanT P ops Q S z (.one i r) a w :=
  planT_op o hl0 hw (wp_app T us hown hb hbase ho hs hx hl hnews h1 hbytes h)
theorem planT_appA {w0 : World} {s' x : Operand} {t e : TypeId} {zv : Value} {size bytes : Nat} (o : Oper)
    (T : SliceT P t e zv size bytes) (us : List Value) {base : Nat} {v u : Value} {n m : Nat} {xs : List Value}
    (hown : w.ownsRow base e size v n xs) (hb : Below base w0 w) (hbase : base ≤ w0.heap.size)
    (hl0 : ops.toList[i]? = some o) (hw : Region.wanted o (yielded ops a.tmps) = true)
    (ho : o.op = .call { callee := .builtin .append, args := #[s', x], argTypes := #[t, t] })
    (hs : a.eval s' = v) (hx : a.eval x = u) (hu : News w u m us)
    (hl : us.length = m * size) (h1 : ∀ u ∈ us, u.oneCell' = true) (hbytes : (n + m) * bytes ≤ 140737488355328)
    (h : ∀ v' w', w'.ownsRow base e size v' (n + m) (xs ++ us) → Below base w0 w' → w.grownBy w' v.ownBlock → (v'.ownBlock = v.ownBlock ∨ v'.ownBlock = some w.heap.size) →
      (i = z ∨ S w') ∧ PlanT P ops Q S z r (a.put o.dst v') w') : PlanT P ops Q S z (.one i r) a w :=
  planT_op o hl0 hw (wp_appA T us hown hb hbase ho hs hx hu hl h1 hbytes h)
theorem planT_end (h : Q .normal a w) : PlanT P ops (NoPanic Q) S z .nil a w := h
end
end
end Go.Proofs.YtmmakljmikdooaaDoor
