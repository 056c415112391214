import Derived.Test.YtaacfjeddoekfaaTl3
/- As lib/Plan, where several stores stand last: from number z on nothing is asked of the world. -/
namespace Go.Proofs.Ytaacfjeddoekfaa.Late2
open Go.RowKit
set_option linter.unusedVariables false

section
variable {P : Program} {ops : Array Oper} {md : Region.Mode} {S : World → Prop} {Q : Exit → Act → World → Prop} {z : Nat}

def wpAnyG (P : Program) (md : Region.Mode) (ops : Array Oper) (Q : Exit → Act → World → Prop) (S : World → Prop) (z : Nat) : Nat → Array Bool → Act → World → Prop
  | 0, listed, a, w => Region.ready md ops listed = [] ∧ Q .normal a w
  | fuel + 1, listed, a, w =>
    (Region.ready md ops listed = [] → Q .normal a w) ∧
    ∀ i ∈ Region.ready md ops listed, wpOp P ops Q i (fun a' w' => (z ≤ i ∨ S w') ∧ wpAnyG P md ops Q S z fuel (listed.setIfInBounds i true) a' w') a w
theorem wpAny_of_G : ∀ (fuel : Nat) (listed : Array Bool) (a : Act) (w : World), wpAnyG P md ops Q S z fuel listed a w → wpAny P md ops Q fuel listed a w
  | 0, _, _, _, h => h
  | fuel + 1, _, _, _, h => ⟨h.1, fun i hi => wpOp_mono (fun a' w' h' => wpAny_of_G fuel _ a' w' h'.2) (h.2 i hi)⟩
/-- what is listed has all listed that it waits for -/
def Closed (md : Region.Mode) (ops : Array Oper) (listed : Array Bool) : Prop := ∀ p o, ops[p]? = some o → listed.getD p false = true → ∀ e ∈ o.after, Region.binds md e = true → listed.getD e.on false = true
def closedB (md : Region.Mode) (ops : Array Oper) (listed : Array Bool) : Bool := (List.range ops.size).all fun p => match ops[p]? with
  | some o => !listed.getD p false || o.after.all fun e => !Region.binds md e || listed.getD e.on false
  | none => true
theorem closedB_spec {listed : Array Bool} (h : closedB md ops listed = true) : Closed md ops listed := fun p o ho hl e he hb => by
  have hlt : p < ops.size := (Array.getElem?_eq_some_iff.1 ho).1
  have := List.all_eq_true.1 h p (by simpa using hlt)
  rw [ho] at this
  simp only [hl, Bool.not_true, Bool.false_or, Array.all_eq_true] at this
  obtain ⟨k, hk, rfl⟩ := Array.mem_iff_getElem.1 he
  have := this k hk
  rw [hb] at this
  simpa using this
theorem getD_mono {listed : Array Bool} {j k : Nat} (h : listed.getD k false = true) : (listed.setIfInBounds j true).getD k false = true := by
  by_cases e : j = k
  · subst e
    rcases Nat.lt_or_ge j listed.size with h' | h'
    · simp [h']
    · simp [Array.getElem?_eq_none h'] at h
  · rw [getD_set_ne false e]; exact h
theorem Closed.next {listed : Array Bool} {j : Nat} (h : Closed md ops listed) (hj : j ∈ Region.ready md ops listed) : Closed md ops (listed.setIfInBounds j true) := fun p o ho hl e he hb => by
  obtain ⟨_, oj, hoj, hall⟩ := mem_ready.1 hj
  refine getD_mono ?_
  by_cases c : j = p
  · subst c
    rw [hoj] at ho
    cases ho
    exact hall e he hb
  · rw [getD_set_ne false c] at hl
    exact h p o ho hl e he hb
def waitsF (md : Region.Mode) (ops : Array Oper) (i : Nat) : Nat → Nat → Bool
  | 0, _ => false
  | f + 1, j => match ops[j]? with
    | some o => o.after.any fun e => Region.binds md e && (decide (e.on = i) || waitsF md ops i f e.on)
    | none => true
theorem waitsF_spec {i : Nat} {listed : Array Bool} (hc : Closed md ops listed) : ∀ (f j : Nat), (∃ o, ops[j]? = some o ∧ ∀ e ∈ o.after, Region.binds md e = true → listed.getD e.on false = true) → (∀ p, listed.getD p false = true → p < ops.size) → waitsF md ops i f j = true → listed.getD i false = true
  | 0, j, _, _, h => by cases h
  | f + 1, j, ⟨o, ho, hall⟩, hs, h => by
    unfold waitsF at h
    rw [ho] at h
    simp only [Array.any_eq_true, Bool.and_eq_true, Bool.or_eq_true, decide_eq_true_eq] at h
    obtain ⟨k, hk, hb, he⟩ := h
    have hl := hall o.after[k] (by simp) hb
    rcases he with he | he
    · rw [← he]; exact hl
    · have hlt := hs _ hl
      refine waitsF_spec hc f o.after[k].on ⟨ops[o.after[k].on], by simp [hlt], fun e he' hb' => hc _ _ (by simp [hlt]) hl e he' hb'⟩ hs he
/-- all numbers from z on wait for number i -/
def waitsL (md : Region.Mode) (ops : Array Oper) (z i : Nat) : Bool := (List.range ops.size).all fun j => decide (j < z) || waitsF md ops i ops.size j
theorem waitsL_spec {i j : Nat} {listed : Array Bool} (hc : Closed md ops listed) (hsz : listed.size = ops.size) (h : waitsL md ops z i = true) (hr : listed.getD i true = false) (hj : j ∈ Region.ready md ops listed) : ¬ z ≤ j := by
  intro hz
  obtain ⟨_, o, ho, hall⟩ := mem_ready.1 hj
  unfold waitsL at h
  have hlt : j < ops.size := (Array.getElem?_eq_some_iff.1 ho).1
  have := List.all_eq_true.1 h j (by simpa using hlt)
  simp only [Bool.or_eq_true, decide_eq_true_eq] at this
  rcases this with c | c
  · omega
  · have h2 := waitsF_spec hc _ j ⟨o, ho, hall⟩ (fun p hp => by
      rcases Nat.lt_or_ge p listed.size with h' | h'
      · omega
      · simp [Array.getElem?_eq_none h'] at hp) c
    rcases Nat.lt_or_ge i listed.size with h' | h'
    · simp [h'] at hr h2; rw [hr] at h2; cases h2
    · simp [Array.getElem?_eq_none h'] at h2

theorem wpAnyG_first {i : Nat} {oi : Oper} {v : Value} (hi : ops[i]? = some oi) (hsel : ∀ (j : Nat) (o : Oper) cs b, ops[j]? = some o → o.op ≠ .select cs b)
    (hQ : ∀ c a w, Q (.panic c) (a.put oi.dst v) w → Q (.panic c) a w) (hzi : waitsL md ops z i = true) :
    ∀ (fuel : Nat) (listed : Array Bool) (a : Act) (w : World),
      (∀ j oj, ops[j]? = some oj → j ≠ i → listed.getD j true = false → (∀ e ∈ oj.after, Region.binds md e = true → e.on ≠ i) → oi.apart ops oj = true) →
      Closed md ops listed → listed.size = ops.size → i ∈ Region.ready md ops listed → YieldsIf P ops S oi v a → S w →
      wpAnyG P md ops Q S z fuel (listed.setIfInBounds i true) (a.put oi.dst v) w → wpAnyG P md ops Q S z (fuel + 1) listed a w := by
  intro fuel
  induction fuel with
  | zero =>
    intro listed a w _ hcl hsz hr hy hS H
    refine ⟨fun h => (by rw [h] at hr; cases hr), fun j hj => ?_⟩
    by_cases hji : j = i
    · subst hji; exact hy.wpOp hi hS ⟨.inr hS, H⟩
    · have := ready_mono hj hji
      rw [H.1] at this
      cases this
  | succ fuel ih =>
    intro listed a w hfree hcl hsz hr hy hS H
    refine ⟨fun h => (by rw [h] at hr; cases hr), fun j hj => ?_⟩
    by_cases hji : j = i
    · subst hji; exact hy.wpOp hi hS ⟨.inr hS, H⟩
    · have h1 := H.2 j (ready_mono hj hji)
      have hjz : ¬ z ≤ j := waitsL_spec hcl hsz hzi (mem_ready.1 hr).1 hj
      obtain ⟨hjun, oj, hoj, hall⟩ := mem_ready.1 hj
      have hnot : ∀ e ∈ oj.after, Region.binds md e = true → e.on ≠ i := fun e he hb heq => by
        have h1 := hall e he hb
        have h0 := (mem_ready.1 hr).1
        rw [heq] at h1
        rcases Nat.lt_or_ge i listed.size with h' | h'
        · simp [h'] at h0 h1; rw [h0] at h1; cases h1
        · simp [Array.getElem?_eq_none h'] at h1
      have h2 := wpOp_putIf hoj (hfree j oj hoj hji hjun hnot) (fun cs b => hsel i oi cs b hi) (fun cs b => hsel j oj cs b hoj) hQ hy h1
      have hfree' : ∀ k ok, ops[k]? = some ok → k ≠ i → (listed.setIfInBounds j true).getD k true = false →
          (∀ e ∈ ok.after, Region.binds md e = true → e.on ≠ i) → oi.apart ops ok = true := fun k ok hk hki hun hno => by
        refine hfree k ok hk hki ?_ hno
        by_cases hjk : j = k
        · subst hjk; exact hjun
        · rw [getD_set_ne true hjk] at hun; exact hun
      refine wpOp_mono (fun a' w' h3 => ?_) h2
      have hS' : S w' := h3.2.1.resolve_left hjz
      refine ⟨.inr hS', ih (listed.setIfInBounds j true) a' w' hfree' (hcl.next hj) (by rw [Array.size_setIfInBounds]; exact hsz) (ready_mono hr (Ne.symm hji)) h3.1 hS' ?_⟩
      rw [Array.setIfInBounds_comm _ _ hji]
      exact h3.2.2

/-- the walk along a plan: (true, i): number i only reads, and is taken first; (false, i): number i alone may come up -/
def Plan (P : Program) (ops : Array Oper) (Q : Exit → Act → World → Prop) (S : World → Prop) (z : Nat) : List (Bool × Nat) → Act → World → Prop
  | [], a, w => Q .normal a w
  | (true, i) :: rest, a, w => ∃ o v, ops[i]? = some o ∧ YieldsIf P ops S o v a ∧ Plan P ops Q S z rest (a.put o.dst v) w
  | (false, i) :: rest, a, w => wpOp P ops Q i (fun a' w' => (z ≤ i ∨ S w') ∧ Plan P ops Q S z rest a' w') a w
def okPlan (md : Region.Mode) (ops : Array Oper) (z : Nat) : List (Bool × Nat) → Array Bool → Bool
  | [], listed => (Region.ready md ops listed).isEmpty
  | (true, i) :: rest, listed => Region.free md ops listed i && (Region.ready md ops listed).contains i && waitsL md ops z i && closedB md ops listed && decide (listed.size = ops.size) && okPlan md ops z rest (listed.setIfInBounds i true)
  | (false, i) :: rest, listed => decide (Region.ready md ops listed = [i]) && (decide (¬ z ≤ i) || rest.all fun p => !p.1) && okPlan md ops z rest (listed.setIfInBounds i true)
theorem plan_G (hsel : Region.noSelect ops = true) (hQ : ∀ c a d v w, Q (.panic c) (a.put d v) w → Q (.panic c) a w) : ∀ (plan : List (Bool × Nat)) (listed : Array Bool) (a : Act) (w : World), okPlan md ops z plan listed = true →
    (S w ∨ (plan.all fun p => !p.1) = true) → Plan P ops Q S z plan a w → wpAnyG P md ops Q S z plan.length listed a w
  | [], listed, a, w, hok, _, h => ⟨by simpa [okPlan] using hok, h⟩
  | (true, i) :: rest, listed, a, w, hok, hS, h => by
    unfold okPlan at hok
    simp only [Bool.and_eq_true] at hok
    obtain ⟨⟨⟨⟨⟨h1, h2⟩, h3⟩, h5⟩, h6⟩, h4⟩ := hok
    obtain ⟨o, v, ho, hy, hr⟩ := h
    have hS' : S w := hS.resolve_right (by simp)
    exact wpAnyG_first ho (Region.noSelect_spec hsel) (fun c a w => hQ c a _ _ w) h3 rest.length listed a w (Region.free_spec ho h1) (closedB_spec h5) (of_decide_eq_true h6) (by simpa using h2) hy hS' (plan_G hsel hQ rest _ _ w h4 (.inl hS') hr)
  | (false, i) :: rest, listed, a, w, hok, hS, h => by
    unfold okPlan at hok
    simp only [Bool.and_eq_true, decide_eq_true_eq, Bool.or_eq_true] at hok
    obtain ⟨⟨h1, h2⟩, h3⟩ := hok
    refine ⟨fun h0 => (by rw [h1] at h0; cases h0), fun j hj => ?_⟩
    rw [h1] at hj
    obtain rfl : j = i := by simpa using hj
    refine wpOp_mono (fun a' w' h' => ⟨h'.1, plan_G hsel hQ rest _ a' w' h3 ?_ h'.2⟩) h
    rcases h'.1 with e | hs
    · rcases h2 with h2 | h2
      · exact absurd e h2
      · exact .inr h2
    · exact .inl hs

/-- the whole region: it does not panic -/
theorem wp_region_plan {id : Nat} {a : Act} {w : World} (plan : List (Bool × Nat)) (z : Nat) (S : World → Prop) (hm : P.follows .mixedOrders = true) (hsel : Region.noSelect ops = true)
    (hok : okPlan .any ops z plan (Array.replicate ops.size false) = true) (hlen : plan.length = ops.size) (hS : S w.drew)
    (h : Plan P ops (NoPanic Q) S z plan a w.drew) : (Code.region id ops true).wp P Q a w := by
  refine wp_region_noPanic (wp_region_any hm (wpAny_of_G (S := S) (z := z) _ _ _ _ ?_))
  have := plan_G hsel (fun _ _ _ _ _ h => h) plan _ a w.drew hok (.inl hS) h
  rw [hlen] at this
  exact this

section
variable {i : Nat} {rest : List (Bool × Nat)} {a : Act} {w : World}
theorem plan_val (o : Oper) (v : Value) (hl0 : ops.toList[i]? = some o) (hw : Region.wanted o (yielded ops a.tmps) = true) (hv : ∀ w, S w → (execOp a.eval o).run P w = .ok (.value v) w)
    (h : Plan P ops Q S z rest (a.put o.dst v) w) : Plan P ops Q S z ((true, i) :: rest) a w := ⟨o, v, by simpa using hl0, .inl ⟨hw, hv⟩, h⟩
theorem plan_skip (o : Oper) (hl0 : ops.toList[i]? = some o) (hw : Region.wanted o (yielded ops a.tmps) = false) (h : Plan P ops Q S z rest (a.put o.dst undef) w) : Plan P ops Q S z ((true, i) :: rest) a w :=
  ⟨o, undef, by simpa using hl0, .inr ⟨hw, rfl⟩, h⟩
theorem plan_op (o : Oper) (hl0 : ops.toList[i]? = some o) (hw : Region.wanted o (yielded ops a.tmps) = true) (h : Oper.wp P o a w (fun a' w' => (z ≤ i ∨ S w') ∧ Plan P ops Q S z rest a' w') Q) : Plan P ops Q S z ((false, i) :: rest) a w := by
  have ho : ops[i]? = some o := by simpa using hl0
  unfold Plan Go.wpOp
  simp only [ho, hw, if_true]
  exact .inl h
theorem plan_do (o : Oper) (u : Value) (w' : World) (hl0 : ops.toList[i]? = some o) (hw : Region.wanted o (yielded ops a.tmps) = true) (hv : (execOp a.eval o).run P w = .ok (.value u) w') (hS : z ≤ i ∨ S w')
    (h : Plan P ops Q S z rest (a.put o.dst u) w') : Plan P ops Q S z ((false, i) :: rest) a w := by
  refine plan_op o hl0 hw ?_
  simp only [Oper.wp, hv, Oper.upon]
  exact ⟨hS, h⟩
theorem plan_store (o : Oper) (w' : World) (hl0 : ops.toList[i]? = some o) (hw : Region.wanted o (yielded ops a.tmps) = true) (hv : (execOp a.eval o).run P w = .ok .skip w') (hS : z ≤ i ∨ S w')
    (h : Plan P ops Q S z rest (a.put o.dst undef) w') : Plan P ops Q S z ((false, i) :: rest) a w := by
  refine plan_op o hl0 hw ?_
  simp only [Oper.wp, hv, Oper.upon]
  exact ⟨hS, h⟩
theorem plan_call (o : Oper) (f : FuncId) (args : Array Value) (hl0 : ops.toList[i]? = some o) (hw : Region.wanted o (yielded ops a.tmps) = true) (hv : (execOp a.eval o).run P w = .ok (.enter f args) w)
    (hc : Calls P f args w fun e w'' => ∃ u, e = .returned u ∧ (z ≤ i ∨ S w'') ∧ Plan P ops Q S z rest (a.put o.dst u) w'') : Plan P ops Q S z ((false, i) :: rest) a w := by
  refine plan_op o hl0 hw ?_
  simp only [Oper.wp, hv, Oper.upon]
  refine Calls.mono hc fun e w'' he => ?_
  obtain ⟨u, rfl, h1, h2⟩ := he
  exact ⟨h1, h2⟩
/-- append of m elements that lie from place p of block g on -/
theorem plan_app {w0 : World} {s x : Operand} {t e : TypeId} {zv : Value} {size bytes : Nat} (o : Oper)
    (T : SliceT P t e zv size bytes) (us : List Value) {base : Nat} {v : Value} {n m g p c : Nat} {xs : List Value}
    (hown : w.ownsRow base e size v n xs) (hb : Below base w0 w) (hbase : base ≤ w0.heap.size)
    (hl0 : ops.toList[i]? = some o) (hw : Region.wanted o (yielded ops a.tmps) = true)
    (ho : o.op = .call { callee := .builtin .append, args := #[s, x], argTypes := #[t, t] })
    (hs : a.eval s = v) (hx : a.eval x = .slice (some ⟨g, p, none⟩) m c)
    (hl : us.length = m * size) (hnews : ∀ j u, us[j]? = some u → w.cell? ⟨g, p + j, none⟩ = some u) (h1 : ∀ u ∈ us, u.oneCell' = true) (hbytes : (n + m) * bytes ≤ 140737488355328)
    (h : ∀ v' w', w'.ownsRow base e size v' (n + m) (xs ++ us) → Below base w0 w' → w.grownBy w' v.ownBlock → (v'.ownBlock = v.ownBlock ∨ v'.ownBlock = some w.heap.size) →
      (z ≤ i ∨ S w') ∧ Plan P ops Q S z rest (a.put o.dst v') w') : Plan P ops Q S z ((false, i) :: rest) a w :=
  plan_op o hl0 hw (wp_app T us hown hb hbase ho hs hx hl hnews h1 hbytes h)
theorem plan_end (h : Q .normal a w) : Plan P ops (NoPanic Q) S z [] a w := h
end
end
end Go.Proofs.Ytaacfjeddoekfaa.Late2
