/- Texts of the seat, put together: Kind, Kind2, Plan. -/
import Derived.Test.YtmmakljmikdooaaDoorTw1
import Derived.Maps.RangeWalk
import Derived.Maps.Views
import Derived.Maps.OwnSet
import Derived.Test.YtmmakljmikdooaaDoorLib
import Derived.OrdersHeld
import Derived.Deep.RegionHeld3
/- Chapter 4, plain: what is seen of a pattern. -/
namespace Go.Proofs.YtmmakljmikdooaaDoor
set_option linter.unusedVariables false

def timesF (z p : Pt) : Int := if p.x ≠ 0 then z.x.tdiv p.x else z.y.tdiv p.y
def hasF (s u z : Pt) : Bool := decide (z.y.tmod u.y = 0) && decide ((z.x - z.y.tdiv u.y * u.x).tmod s.x = 0)
def divP (v : Pt) (n : Nat) : Pt := ⟨v.x.tdiv n, v.y.tdiv n⟩
def fitF (s u v : Pt) (n : Nat) : Bool := decide (v.x.tmod n = 0) && decide (v.y.tmod n = 0) && hasF s u (divP v n)
def shortF (s u v : Pt) : Nat → Pt
  | 0 => ⟨0, 0⟩
  | n + 1 => if fitF s u v (n + 1) = true then divP v (n + 1) else shortF s u v n
def isZ (v : Pt) : Bool := decide (v.x = 0 ∧ v.y = 0)
def lenF (v : Pt) : Nat := v.x.natAbs + v.y.natAbs
def alongF (g : Int) (t : Nat) (z : Pt) : Pt := addP z (lin g t true z)
def lineF (a b : Pt) : Pt := if isZ a = true then b else a
def stepF (g : Int) (s u : Pt) (t : Nat) : Pt := shortF s u (lineF (alongF g t s) (alongF g t u)) (lenF (lineF (alongF g t s) (alongF g t u)))
def oddF (z p : Pt) : Bool := decide ((timesF z p).tmod 2 ≠ 0)
def wayF (g : Int) (s u : Pt) (m : Mv) : Bool × Bool :=
  if (oddF (alongF g m.t s) (stepF g s u m.t) || oddF (alongF g m.t u) (stepF g s u m.t)) = true then (true, true)
  else (!oddF (both g m m).b (stepF g s u m.t), oddF (both g m m).b (stepF g s u m.t))

theorem tdiv_le (a b : Int) {B : Int} (h : -B ≤ a ∧ a ≤ B) : -B ≤ a.tdiv b ∧ a.tdiv b ≤ B := by
  have := Int.natAbs_tdiv_le_natAbs a b
  omega
theorem divP_le {v : Pt} {n : Nat} {B : Int} (h : v.le B) : (divP v n).le B := by
  unfold Pt.le divP at *
  dsimp only
  have h1 := tdiv_le v.x n ⟨h.1, h.2.1⟩
  have h2 := tdiv_le v.y n ⟨h.2.2.1, h.2.2.2⟩
  exact ⟨h1.1, h1.2, h2.1, h2.2⟩
theorem timesF_le {z p : Pt} {B : Int} (h : z.le B) : -B ≤ timesF z p ∧ timesF z p ≤ B := by
  unfold timesF
  unfold Pt.le at h
  split
  · exact tdiv_le _ _ ⟨h.1, h.2.1⟩
  · exact tdiv_le _ _ ⟨h.2.2.1, h.2.2.2⟩
theorem fit_one {s u v : Pt} (h : hasF s u v = true) : fitF s u v 1 = true := by
  have e : divP v 1 = v := by
    unfold divP
    apply Pt.ext' <;> simp
  unfold fitF
  rw [e, h]
  simp
theorem short_le {s u v : Pt} {B : Int} (hB : 0 ≤ B) (h : v.le B) : ∀ n, (shortF s u v n).le B
  | 0 => by unfold shortF Pt.le; dsimp only; omega
  | n + 1 => by
    unfold shortF
    split
    · exact divP_le h
    · exact short_le hB h n
theorem divP_ne {v : Pt} {n : Nat} (hv : isZ v = false) (h1 : v.x.tmod n = 0) (h2 : v.y.tmod n = 0) : isZ (divP v n) = false := by
  unfold isZ divP at *
  simp only [decide_eq_false_iff_not, not_and] at *
  intro e1 e2
  have a1 := Int.mul_tdiv_add_tmod v.x n
  have a2 := Int.mul_tdiv_add_tmod v.y n
  rw [e1, h1] at a1
  rw [e2, h2] at a2
  simp at a1 a2
  exact hv a1.symm a2.symm
theorem short_ne {s u v : Pt} (hv : isZ v = false) (hh : hasF s u v = true) : ∀ n, 1 ≤ n → isZ (shortF s u v n) = false
  | 0, h => by omega
  | n + 1, _ => by
    unfold shortF
    split
    next h =>
      unfold fitF at h
      simp only [Bool.and_eq_true, decide_eq_true_eq] at h
      exact divP_ne hv h.1.1 h.1.2
    next h =>
      rcases Nat.eq_zero_or_pos n with e | e
      · subst e
        exact absurd (fit_one hh) h
      · exact short_ne hv hh n e
theorem isZ_or {p : Pt} (h : isZ p = false) : p.x ≠ 0 ∨ p.y ≠ 0 := by
  unfold isZ at h
  simp only [decide_eq_false_iff_not] at h
  omega
theorem len_pos {v : Pt} (h : isZ v = false) : 1 ≤ lenF v := by
  have := isZ_or h
  unfold lenF
  omega
end Go.Proofs.YtmmakljmikdooaaDoor
/- Chapter 4, plain: maps by turns, told as lists. -/
namespace Go.Proofs.YtmmakljmikdooaaDoor
open Go.Maps
set_option linter.unusedVariables false

abbrev DU := DataW Unit
/-- the key of a turn -/
def kt (t : Nat) : Lit := .int .i64 (t : Int)
theorem kt_key (t : Nat) : WideAt.IsKeyLit (kt t) := by unfold kt; simp [WideAt.IsKeyLit]
theorem kt_inj {a b : Nat} (h : kt a = kt b) : a = b := by
  unfold kt at h
  injection h with h1 h2
  omega
/-- a map as read is this list -/
structure MapL {δ : Type} (enc : δ → DU) (D : DU) (l : List (Nat × δ)) : Prop where
  tidy : Tidy D
  keys : ∀ kl, has D kl = true ↔ ∃ e ∈ l, kl = kt e.1
  at_ : ∀ e ∈ l, ∀ z, D.atKey (kt e.1) z = enc e.2
  size : Maps.size D = l.length
section
variable {δ : Type} {enc : δ → DU} {D : DU} {l : List (Nat × δ)}
theorem MapL.nil : MapL enc (.map []) [] := ⟨tidy_empty, fun kl => by simp [has], fun e he => by simp at he, rfl⟩
theorem MapL.has_iff (h : MapL enc D l) (t : Nat) : has D (kt t) = l.any (fun e => e.1 == t) := by
  rw [Bool.eq_iff_iff, h.keys, List.any_eq_true]
  constructor
  · rintro ⟨e, he, hk⟩
    exact ⟨e, he, by rw [beq_iff_eq]; exact (kt_inj hk).symm⟩
  · rintro ⟨e, he, hk⟩
    rw [beq_iff_eq] at hk
    exact ⟨e, he, by rw [hk]⟩
theorem MapL.new (h : MapL enc D l) {t : Nat} (d : δ) (ht : l.any (fun e => e.1 == t) = false) : MapL enc (D.put (kt t) (enc d)) (l ++ [(t, d)]) := by
  have hno := h.has_iff t
  rw [ht] at hno
  refine ⟨h.tidy.put (kt_key t) _, fun kl => ?_, fun e he z => ?_, ?_⟩
  · by_cases hk : kl = kt t
    · subst hk
      rw [has_put_same h.tidy.isMap (kt_key t)]
      exact ⟨fun _ => ⟨(t, d), by simp, rfl⟩, fun _ => rfl⟩
    · rw [has_put_other hk, h.keys]
      constructor
      · rintro ⟨e, he, hk2⟩
        exact ⟨e, by simp [he], hk2⟩
      · rintro ⟨e, he, hk2⟩
        rcases List.mem_append.1 he with h1 | h1
        · exact ⟨e, h1, hk2⟩
        · simp at h1
          subst h1
          exact absurd hk2 hk
  · rcases List.mem_append.1 he with h1 | h1
    · have hne : kt e.1 ≠ kt t := fun e2 => by
        have := List.any_eq_false.1 ht e h1
        rw [beq_iff_eq] at this
        exact this (kt_inj e2)
      rw [atKey_put_other hne]
      exact h.at_ e h1 z
    · simp at h1
      subst h1
      exact atKey_put_same h.tidy.isMap (kt_key t) _ _
  · rw [size_put h.tidy, hno, h.size]
    simp
theorem MapL.again (h : MapL enc D l) {t : Nat} {d : δ} (hd : ∀ e ∈ l, e.1 = t → enc e.2 = enc d) (ht : l.any (fun e => e.1 == t) = true) : MapL enc (D.put (kt t) (enc d)) l := by
  have hyes := h.has_iff t
  rw [ht] at hyes
  refine ⟨h.tidy.put (kt_key t) _, fun kl => ?_, fun e he z => ?_, ?_⟩
  · by_cases hk : kl = kt t
    · subst hk
      rw [has_put_same h.tidy.isMap (kt_key t)]
      rw [← h.keys, hyes]
    · rw [has_put_other hk, h.keys]
  · by_cases hk : e.1 = t
    · rw [hk, atKey_put_same h.tidy.isMap (kt_key t)]
      exact (hd e he hk).symm
    · have hne : kt e.1 ≠ kt t := fun e2 => hk (kt_inj e2)
      rw [atKey_put_other hne]
      exact h.at_ e he z
  · rw [size_put h.tidy, hyes, h.size]
    simp
end
def wayD (p : Bool × Bool) : DU := .agg [.lit (.bool p.1), .lit (.bool p.2)]
theorem wayD_inj {p q : Bool × Bool} (h : wayD p = wayD q) : p = q := by
  unfold wayD at h
  obtain ⟨a, b⟩ := p
  obtain ⟨c, d⟩ := q
  simp at h
  simp [h]
def wayV (p : Bool × Bool) : Value := .agg #[.bool p.1, .bool p.2]
/-- how an element reads -/
def wayElem : Value → Option (DU × List MemPlace)
  | .agg cs => match cs.toList with
    | [.bool a, .bool b] => some (wayD (a, b), [])
    | _ => none
  | _ => none
theorem wayElem_mk (p : Bool × Bool) : wayElem (wayV p) = some (wayD p, []) := rfl
theorem wayElem_inv {v : Value} {y : DU × List MemPlace} (h : wayElem v = some y) : ∃ p : Bool × Bool, v = wayV p ∧ y = (wayD p, []) := by
  unfold wayElem at h
  split at h
  next cs =>
    split at h
    next a b hc =>
      injection h with h
      refine ⟨(a, b), ?_, h.symm⟩
      have : cs = #[.bool a, .bool b] := by
        apply Array.toList_inj.1
        rw [hc]
      rw [this]; rfl
    next => cases h
  next => cases h
def oneD (_ : Unit) : DU := .lit (.bool true)
def stepT (acc : List (Nat × Unit)) (m : Mv) : List (Nat × Unit) := if (m.f || acc.any (fun e => e.1 == m.t)) = true then acc else acc ++ [(m.t, ())]
def stepW (g : Int) (s u : Pt) (acc : List (Nat × (Bool × Bool))) (m : Mv) : List (Nat × (Bool × Bool)) := if (!m.f || acc.any (fun e => e.1 == m.t)) = true then acc else acc ++ [(m.t, wayF g s u m)]
def turnsF (L : List Mv) : List (Nat × Unit) := L.foldl stepT []
def waysF (g : Int) (s u : Pt) (L : List Mv) : List (Nat × (Bool × Bool)) := L.foldl (stepW g s u) []
theorem turnsF_take {L : List Mv} {j : Nat} (h : j < L.length) : turnsF (L.take (j + 1)) = stepT (turnsF (L.take j)) L[j] := by
  unfold turnsF
  rw [List.take_succ_eq_append_getElem h, List.foldl_append]; rfl
theorem waysF_take {g : Int} {s u : Pt} {L : List Mv} {j : Nat} (h : j < L.length) : waysF g s u (L.take (j + 1)) = stepW g s u (waysF g s u (L.take j)) L[j] := by
  unfold waysF
  rw [List.take_succ_eq_append_getElem h, List.foldl_append]; rfl
theorem stepT_len (acc : List (Nat × Unit)) (m : Mv) : (stepT acc m).length ≤ acc.length + 1 := by
  unfold stepT; split <;> simp
theorem stepW_len (g : Int) (s u : Pt) (acc : List (Nat × (Bool × Bool))) (m : Mv) : (stepW g s u acc m).length ≤ acc.length + 1 := by
  unfold stepW; split <;> simp
end Go.Proofs.YtmmakljmikdooaaDoor
/- A region that draws its order, walked in an order of our own: what only reads is taken first; of what writes only one may come up at a time; behind the last store nothing is asked of the world any more. -/
namespace Go.Proofs.YtmmakljmikdooaaDoor
open Go.RowKit
set_option linter.unusedVariables false

section
variable {P : Program} {ops : Array Oper} {md : Region.Mode} {S : World → Prop} {Q : Exit → Act → World → Prop} {z : Nat}

def wpAnyG (P : Program) (md : Region.Mode) (ops : Array Oper) (Q : Exit → Act → World → Prop) (S : World → Prop) (z : Nat) : Nat → Array Bool → Act → World → Prop
  | 0, listed, a, w => Region.ready md ops listed = [] ∧ Q .normal a w
  | fuel + 1, listed, a, w =>
    (Region.ready md ops listed = [] → Q .normal a w) ∧
    ∀ i ∈ Region.ready md ops listed, wpOp P ops Q i (fun a' w' => (i = z ∨ S w') ∧ wpAnyG P md ops Q S z fuel (listed.setIfInBounds i true) a' w') a w
theorem wpAny_of_G : ∀ (fuel : Nat) (listed : Array Bool) (a : Act) (w : World), wpAnyG P md ops Q S z fuel listed a w → wpAny P md ops Q fuel listed a w
  | 0, _, _, _, h => h
  | fuel + 1, _, _, _, h => ⟨h.1, fun i hi => wpOp_mono (fun a' w' h' => wpAny_of_G fuel _ a' w' h'.2) (h.2 i hi)⟩
/-- number z waits for number i -/
def waits (md : Region.Mode) (ops : Array Oper) (z i : Nat) : Bool := match ops[z]? with
  | some o => o.after.any fun e => Region.binds md e && decide (e.on = i)
  | none => true
theorem waits_spec {i : Nat} {listed : Array Bool} (h : waits md ops z i = true) (hr : listed.getD i true = false) : z ∉ Region.ready md ops listed := by
  intro hz
  obtain ⟨_, o, ho, hall⟩ := mem_ready.1 hz
  unfold waits at h
  rw [ho] at h
  simp only [Array.any_eq_true, Bool.and_eq_true, decide_eq_true_eq] at h
  obtain ⟨k, hk, hb, he⟩ := h
  have h1 := hall o.after[k] (by simp) hb
  rw [he] at h1
  rcases Nat.lt_or_ge i listed.size with h' | h'
  · simp [h'] at hr h1; rw [hr] at h1; cases h1
  · simp [Array.getElem?_eq_none h'] at h1

theorem wpAnyG_first {i : Nat} {oi : Oper} {v : Value} (hi : ops[i]? = some oi) (hsel : ∀ (j : Nat) (o : Oper) cs b, ops[j]? = some o → o.op ≠ .select cs b)
    (hQ : ∀ c a w, Q (.panic c) (a.put oi.dst v) w → Q (.panic c) a w) (hzi : waits md ops z i = true) :
    ∀ (fuel : Nat) (listed : Array Bool) (a : Act) (w : World),
      (∀ j oj, ops[j]? = some oj → j ≠ i → listed.getD j true = false → (∀ e ∈ oj.after, Region.binds md e = true → e.on ≠ i) → oi.apart ops oj = true) →
      i ∈ Region.ready md ops listed → YieldsIf P ops S oi v a → S w →
      wpAnyG P md ops Q S z fuel (listed.setIfInBounds i true) (a.put oi.dst v) w → wpAnyG P md ops Q S z (fuel + 1) listed a w := by
  intro fuel
  induction fuel with
  | zero =>
    intro listed a w _ hr hy hS H
    refine ⟨fun h => (by rw [h] at hr; cases hr), fun j hj => ?_⟩
    by_cases hji : j = i
    · subst hji; exact hy.wpOp hi hS ⟨.inr hS, H⟩
    · have := ready_mono hj hji
      rw [H.1] at this
      cases this
  | succ fuel ih =>
    intro listed a w hfree hr hy hS H
    refine ⟨fun h => (by rw [h] at hr; cases hr), fun j hj => ?_⟩
    by_cases hji : j = i
    · subst hji; exact hy.wpOp hi hS ⟨.inr hS, H⟩
    · have h1 := H.2 j (ready_mono hj hji)
      have hjz : j ≠ z := fun e => waits_spec hzi (mem_ready.1 hr).1 (e ▸ hj)
      obtain ⟨hjun, oj, hoj, hall⟩ := mem_ready.1 hj
      have hnot : ∀ e ∈ oj.after, Region.binds md e = true → e.on ≠ i := fun e he hb heq => by
        have h1 := hall e he hb
        have h0 := (mem_ready.1 hr).1
        rw [heq] at h1
        rcases Nat.lt_or_ge i listed.size with h' | h'
        · simp [h'] at h0 h1; rw [h0] at h1; cases h1
        · simp [Array.getElem?_eq_none h'] at h1
      have h2 := wpOp_putIf hoj (hfree j oj hoj hji hjun hnot) (fun cs b => hsel i oi cs b hi) (fun cs b => hsel j oj cs b hoj) hQ hy h1
      have hfree' : ∀ k ok, ops[k]? = some ok → k ≠ i → (listed.setIfInBounds j true).getD k true = false →
          (∀ e ∈ ok.after, Region.binds md e = true → e.on ≠ i) → oi.apart ops ok = true := fun k ok hk hki hun hno => by
        refine hfree k ok hk hki ?_ hno
        by_cases hjk : j = k
        · subst hjk; exact hjun
        · rw [getD_set_ne true hjk] at hun; exact hun
      refine wpOp_mono (fun a' w' h3 => ?_) h2
      have hS' : S w' := h3.2.1.resolve_left hjz
      refine ⟨.inr hS', ih (listed.setIfInBounds j true) a' w' hfree' (ready_mono hr (Ne.symm hji)) h3.1 hS' ?_⟩
      rw [Array.setIfInBounds_comm _ _ hji]
      exact h3.2.2

/-- the walk along a plan: (true, i): number i only reads, and is taken first; (false, i): number i alone may come up -/
def Plan (P : Program) (ops : Array Oper) (Q : Exit → Act → World → Prop) (S : World → Prop) (z : Nat) : List (Bool × Nat) → Act → World → Prop
  | [], a, w => Q .normal a w
  | (true, i) :: rest, a, w => ∃ o v, ops[i]? = some o ∧ YieldsIf P ops S o v a ∧ Plan P ops Q S z rest (a.put o.dst v) w
  | (false, i) :: rest, a, w => wpOp P ops Q i (fun a' w' => (i = z ∨ S w') ∧ Plan P ops Q S z rest a' w') a w
def okPlan (md : Region.Mode) (ops : Array Oper) (z : Nat) : List (Bool × Nat) → Array Bool → Bool
  | [], listed => (Region.ready md ops listed).isEmpty
  | (true, i) :: rest, listed => Region.free md ops listed i && (Region.ready md ops listed).contains i && waits md ops z i && okPlan md ops z rest (listed.setIfInBounds i true)
  | (false, i) :: rest, listed => decide (Region.ready md ops listed = [i]) && (decide (i ≠ z) || rest.all fun p => !p.1) && okPlan md ops z rest (listed.setIfInBounds i true)
theorem plan_G (hsel : Region.noSelect ops = true) (hQ : ∀ c a d v w, Q (.panic c) (a.put d v) w → Q (.panic c) a w) : ∀ (plan : List (Bool × Nat)) (listed : Array Bool) (a : Act) (w : World), okPlan md ops z plan listed = true →
    (S w ∨ (plan.all fun p => !p.1) = true) → Plan P ops Q S z plan a w → wpAnyG P md ops Q S z plan.length listed a w
  | [], listed, a, w, hok, _, h => ⟨by simpa [okPlan] using hok, h⟩
  | (true, i) :: rest, listed, a, w, hok, hS, h => by
    unfold okPlan at hok
    simp only [Bool.and_eq_true] at hok
    obtain ⟨⟨⟨h1, h2⟩, h3⟩, h4⟩ := hok
    obtain ⟨o, v, ho, hy, hr⟩ := h
    have hS' : S w := hS.resolve_right (by simp)
    exact wpAnyG_first ho (Region.noSelect_spec hsel) (fun c a w => hQ c a _ _ w) h3 rest.length listed a w (Region.free_spec ho h1) (by simpa using h2) hy hS' (plan_G hsel hQ rest _ _ w h4 (.inl hS') hr)
  | (false, i) :: rest, listed, a, w, hok, hS, h => by
    unfold okPlan at hok
    simp only [Bool.and_eq_true, decide_eq_true_eq, Bool.or_eq_true] at hok
    obtain ⟨⟨h1, h2⟩, h3⟩ := hok
    refine ⟨fun h0 => (by rw [h1] at h0; cases h0), fun j hj => ?_⟩
    rw [h1] at hj
    obtain rfl : j = i := by simpa using hj
    refine wpOp_mono (fun a' w' h' => ⟨h'.1, plan_G hsel hQ rest _ a' w' h3 ?_ h'.2⟩) h
    rcases h'.1 with e | hs
    · rcases h2 with h2 | h2
      · exact absurd e h2
      · exact .inr h2
    · exact .inl hs

/-- the whole region: it does not panic -/
theorem wp_region_plan {id : Nat} {a : Act} {w : World} (plan : List (Bool × Nat)) (z : Nat) (S : World → Prop) (hm : P.follows .mixedOrders = true) (hsel : Region.noSelect ops = true)
    (hok : okPlan .any ops z plan (Array.replicate ops.size false) = true) (hlen : plan.length = ops.size) (hS : S w.drew)
    (h : Plan P ops (NoPanic Q) S z plan a w.drew) : (Code.region id ops true).wp P Q a w := by
  refine wp_region_noPanic (wp_region_any hm (wpAny_of_G (S := S) (z := z) _ _ _ _ ?_))
  have := plan_G hsel (fun _ _ _ _ _ h => h) plan _ a w.drew hok (.inl hS) h
  rw [hlen] at this
  exact this

section
variable {i : Nat} {rest : List (Bool × Nat)} {a : Act} {w : World}
theorem plan_val (o : Oper) (v : Value) (hl0 : ops.toList[i]? = some o) (hw : Region.wanted o (yielded ops a.tmps) = true) (hv : ∀ w, S w → (execOp a.eval o).run P w = .ok (.value v) w)
    (h : Plan P ops Q S z rest (a.put o.dst v) w) : Plan P ops Q S z ((true, i) :: rest) a w := ⟨o, v, by simpa using hl0, .inl ⟨hw, hv⟩, h⟩
theorem plan_skip (o : Oper) (hl0 : ops.toList[i]? = some o) (hw : Region.wanted o (yielded ops a.tmps) = false) (h : Plan P ops Q S z rest (a.put o.dst undef) w) : Plan P ops Q S z ((true, i) :: rest) a w :=
  ⟨o, undef, by simpa using hl0, .inr ⟨hw, rfl⟩, h⟩
theorem plan_op (o : Oper) (hl0 : ops.toList[i]? = some o) (hw : Region.wanted o (yielded ops a.tmps) = true) (h : Oper.wp P o a w (fun a' w' => (i = z ∨ S w') ∧ Plan P ops Q S z rest a' w') Q) : Plan P ops Q S z ((false, i) :: rest) a w := by
  have ho : ops[i]? = some o := by simpa using hl0
  unfold Plan Go.wpOp
  simp only [ho, hw, if_true]
  exact .inl h
theorem plan_do (o : Oper) (u : Value) (w' : World) (hl0 : ops.toList[i]? = some o) (hw : Region.wanted o (yielded ops a.tmps) = true) (hv : (execOp a.eval o).run P w = .ok (.value u) w') (hS : i = z ∨ S w')
    (h : Plan P ops Q S z rest (a.put o.dst u) w') : Plan P ops Q S z ((false, i) :: rest) a w := by
  refine plan_op o hl0 hw ?_
  simp only [Oper.wp, hv, Oper.upon]
  exact ⟨hS, h⟩
theorem plan_store (o : Oper) (w' : World) (hl0 : ops.toList[i]? = some o) (hw : Region.wanted o (yielded ops a.tmps) = true) (hv : (execOp a.eval o).run P w = .ok .skip w') (hS : i = z ∨ S w')
    (h : Plan P ops Q S z rest (a.put o.dst undef) w') : Plan P ops Q S z ((false, i) :: rest) a w := by
  refine plan_op o hl0 hw ?_
  simp only [Oper.wp, hv, Oper.upon]
  exact ⟨hS, h⟩
theorem plan_call (o : Oper) (f : FuncId) (args : Array Value) (hl0 : ops.toList[i]? = some o) (hw : Region.wanted o (yielded ops a.tmps) = true) (hv : (execOp a.eval o).run P w = .ok (.enter f args) w)
    (hc : Calls P f args w fun e w'' => ∃ u, e = .returned u ∧ (i = z ∨ S w'') ∧ Plan P ops Q S z rest (a.put o.dst u) w'') : Plan P ops Q S z ((false, i) :: rest) a w := by
  refine plan_op o hl0 hw ?_
  simp only [Oper.wp, hv, Oper.upon]
  refine Calls.mono hc fun e w'' he => ?_
  obtain ⟨u, rfl, h1, h2⟩ := he
  exact ⟨h1, h2⟩
/-- append of m elements that lie from place p of block g on -/
theorem plan_app {w0 : World} {s x : Operand} {t e : TypeId} {zv : Value} {size bytes : Nat} (o : Oper)
    (T : SliceT P t e zv size bytes) (us : List Value) {base : Nat} {v : Value} {n m g p c : Nat} {xs : List Value}
    (hown : w.ownsRow base e size v n xs) (hb : Below base w0 w) (hbase : base ≤ w0.heap.size)
    (hl0 : ops.toList[i]? = some o) (hw : Region.wanted o (yielded ops a.tmps) = true)
    (ho : o.op = .call { callee := .builtin .append, args := #[s, x], argTypes := #[t, t] })
    (hs : a.eval s = v) (hx : a.eval x = .slice (some ⟨g, p, none⟩) m c)
    (hl : us.length = m * size) (hnews : ∀ j u, us[j]? = some u → w.cell? ⟨g, p + j, none⟩ = some u) (h1 : ∀ u ∈ us, u.oneCell' = true) (hbytes : (n + m) * bytes ≤ 140737488355328)
    (h : ∀ v' w', w'.ownsRow base e size v' (n + m) (xs ++ us) → Below base w0 w' → w.grownBy w' v.ownBlock → (v'.ownBlock = v.ownBlock ∨ v'.ownBlock = some w.heap.size) →
      (i = z ∨ S w') ∧ Plan P ops Q S z rest (a.put o.dst v') w') : Plan P ops Q S z ((false, i) :: rest) a w :=
  plan_op o hl0 hw (wp_app T us hown hb hbase ho hs hx hl hnews h1 hbytes h)
theorem plan_end (h : Q .normal a w) : Plan P ops (NoPanic Q) S z [] a w := h
end
end
end Go.Proofs.YtmmakljmikdooaaDoor
