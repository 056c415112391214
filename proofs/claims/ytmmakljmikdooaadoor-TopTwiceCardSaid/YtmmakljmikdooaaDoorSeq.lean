/- A region that draws its order, walked once, in the order of its text: each operation yields one value from every world of S, and leaves a world of S. -/
import Derived.OrdersHeld
import Derived.Deep.RegionHeld
namespace Go.Proofs.YtmmakljmikdooaaDoor
set_option linter.unusedVariables false

/-- the result is v, in a world of S -/
def Gives (P : Program) (S : World → Prop) (v : Value) : Result Next → Prop
  | .ok (.value u) w' => u = v ∧ S w'
  | .ok (.enter f args) w' => Calls P f args w' fun e w'' => e = .returned v ∧ S w''
  | _ => False
theorem gives_value {P : Program} {S : World → Prop} {v : Value} {w : World} (h : S w) : Gives P S v (.ok (.value v) w) := ⟨rfl, h⟩
theorem gives_enter {P : Program} {S : World → Prop} {v : Value} {f : FuncId} {args : Array Value} {w : World} (h : Calls P f args w fun e w'' => e = .returned v ∧ S w'') : Gives P S v (.ok (.enter f args) w) := h

section
variable {P : Program} {ops : Array Oper} {md : Region.Mode} {S : World → Prop} {Q : Exit → Act → World → Prop}

def SY (P : Program) (ops : Array Oper) (S : World → Prop) (o : Oper) (v : Value) (a : Act) : Prop :=
  (Region.wanted o (yielded ops a.tmps) = true ∧ ∀ w, S w → Gives P S v ((execOp a.eval o).run P w)) ∨ (Region.wanted o (yielded ops a.tmps) = false ∧ v = undef)

theorem SY.of_same {o : Oper} {v : Value} {a a' : Act} (hy : SY P ops S o v a) (he : execOp a'.eval o = execOp a.eval o)
    (hw : Region.wanted o (yielded ops a'.tmps) = Region.wanted o (yielded ops a.tmps)) : SY P ops S o v a' := by
  unfold SY at *
  rw [he, hw]
  exact hy

theorem SY.wpOp {i : Nat} {o : Oper} {v : Value} {a : Act} (hi : ops[i]? = some o) (hy : SY P ops S o v a) {K : Act → World → Prop} {w : World} (hS : S w) (h : ∀ w', S w' → K (a.put o.dst v) w') :
    wpOp P ops Q i K a w := by
  unfold Go.wpOp
  simp only [hi]
  rcases hy with ⟨hw, hv⟩ | ⟨hw, rfl⟩
  · simp only [hw, if_true, Oper.wp]
    refine .inl ?_
    have := hv w hS
    generalize (execOp a.eval o).run P w = r at *
    cases r with
    | ok n w' =>
      cases n <;> simp only [Gives] at this <;> simp only [Oper.upon]
      case value u => obtain ⟨rfl, h1⟩ := this; exact h _ h1
      case enter f args =>
        refine Calls.mono this fun e w'' he => ?_
        obtain ⟨rfl, h1⟩ := he
        exact h _ h1
    | halt x w' => cases this
  · simp only [hw, Bool.false_eq_true, if_false]; exact h _ hS

/-- n operations more, in whatever order: they end in A, having been listed as in L -/
def SDet (P : Program) (md : Region.Mode) (ops : Array Oper) (S : World → Prop) (A : Act) (L : Array Bool) : Nat → Array Bool → Act → Prop
  | 0, listed, a => listed = L ∧ a = A
  | n + 1, listed, a => Region.ready md ops listed ≠ [] ∧ ∀ i ∈ Region.ready md ops listed, ∃ o v, ops[i]? = some o ∧ SY P ops S o v a ∧ SDet P md ops S A L n (listed.setIfInBounds i true) (a.put o.dst v)

theorem SDet.any {A : Act} {L : Array Bool} {m : Nat} (hQ : ∀ w', S w' → wpAny P md ops Q m L A w') : ∀ (n : Nat) (listed : Array Bool) (a : Act) (w : World), SDet P md ops S A L n listed a → S w → wpAny P md ops Q (n + m) listed a w
  | 0, listed, a, w, h, hS => by
    obtain ⟨rfl, rfl⟩ := h
    rw [Nat.zero_add]
    exact hQ w hS
  | n + 1, listed, a, w, h, hS => by
    rw [Nat.add_right_comm]
    refine ⟨fun h0 => absurd h0 h.1, fun i hi => ?_⟩
    obtain ⟨o, v, ho, hy, hd⟩ := h.2 i hi
    exact hy.wpOp ho hS fun w' hw' => SDet.any hQ n _ _ w' hd hw'

theorem SDet.first {A : Act} {L : Array Bool} {i : Nat} {oi : Oper} {v : Value} (hi : ops[i]? = some oi) (hsel : ∀ (j : Nat) (o : Oper) cs b, ops[j]? = some o → o.op ≠ .select cs b)
    (hL : ∀ p j, L.getD p true = true → L.getD p false = true → j ∈ Region.ready md ops (L.setIfInBounds p false) → L.getD j false = true) :
    ∀ (n : Nat) (listed : Array Bool) (a : Act),
      (∀ j oj, ops[j]? = some oj → j ≠ i → listed.getD j true = false → (∀ e ∈ oj.after, Region.binds md e = true → e.on ≠ i) → oi.apart ops oj = true) →
      i ∈ Region.ready md ops listed → SY P ops S oi v a → SDet P md ops S A L n (listed.setIfInBounds i true) (a.put oi.dst v) → SDet P md ops S A L (n + 1) listed a := by
  intro n
  induction n with
  | zero =>
    intro listed a _ hr hy H
    refine ⟨fun h => (by rw [h] at hr; cases hr), fun j hj => ?_⟩
    have hji : j = i := by
      rcases Nat.decEq j i with hne | h
      · exfalso
        have hli := (mem_ready.1 hr).1
        have hlj := (mem_ready.1 hj).1
        have hlt : i < listed.size := by
          rcases Nat.lt_or_ge i listed.size with h' | h'
          · exact h'
          · simp [Array.getElem?_eq_none h'] at hli
        have e : listed = L.setIfInBounds i false := by
          rw [← H.1, Array.setIfInBounds_setIfInBounds]
          simp [hlt] at hli
          apply Array.ext
          · simp
          · intro k h1 h2
            by_cases hk : i = k
            · subst hk; simp [hli]
            · rw [Array.getElem_setIfInBounds_ne (h := hk)]
        have hLi : L.getD i false = true := by rw [← H.1]; simp [hlt]
        have hLi' : L.getD i true = true := by rw [← H.1]; simp [hlt]
        have := hL i j hLi' hLi (by rw [← e]; exact hj)
        rw [← H.1] at this
        have hlt2 : j < listed.size := by
          rcases Nat.lt_or_ge j listed.size with h' | h'
          · exact h'
          · simp [Array.getElem?_eq_none h'] at hlj
        rw [getD_set_ne false (Ne.symm hne)] at this
        simp [hlt2] at hlj this
        rw [hlj] at this
        cases this
      · exact h
    subst hji
    exact ⟨oi, v, hi, hy, H⟩
  | succ n ih =>
    intro listed a hfree hr hy H
    refine ⟨fun h => (by rw [h] at hr; cases hr), fun j hj => ?_⟩
    by_cases hji : j = i
    · subst hji; exact ⟨oi, v, hi, hy, H⟩
    · obtain ⟨oj, vj, hoj, hyj, hd⟩ := H.2 j (ready_mono hj hji)
      obtain ⟨hjun, oj', hoj', hall⟩ := mem_ready.1 hj
      rw [hoj] at hoj'
      cases hoj'
      have hnot : ∀ e ∈ oj.after, Region.binds md e = true → e.on ≠ i := fun e he hb heq => by
        have h1 := hall e he hb
        have h0 := (mem_ready.1 hr).1
        rw [heq] at h1
        rcases Nat.lt_or_ge i listed.size with h' | h'
        · simp [h'] at h0 h1; rw [h0] at h1; cases h1
        · simp [Array.getElem?_eq_none h'] at h1
      obtain ⟨h1, h2, h3⟩ := Oper.apart_spec (hfree j oj hoj hji hjun hnot)
      have hyj' : SY P ops S oj vj a := hyj.of_same (execOp_put oj (fun cs b => hsel j oj cs b hoj) a oi.dst v h1).symm (wanted_put oj a oi.dst v h1).symm
      have hyi' : SY P ops S oi v (a.put oj.dst vj) := hy.of_same (execOp_put oi (fun cs b => hsel i oi cs b hi) a oj.dst vj h3) (wanted_put oi a oj.dst vj h3)
      have hfree' : ∀ k ok, ops[k]? = some ok → k ≠ i → (listed.setIfInBounds j true).getD k true = false →
          (∀ e ∈ ok.after, Region.binds md e = true → e.on ≠ i) → oi.apart ops ok = true := fun k ok hk hki hun hno => by
        refine hfree k ok hk hki ?_ hno
        by_cases hjk : j = k
        · subst hjk; exact hjun
        · rw [getD_set_ne true hjk] at hun; exact hun
      refine ⟨oj, vj, hoj, hyj', ih (listed.setIfInBounds j true) (a.put oj.dst vj) hfree' (ready_mono hr (Ne.symm hji)) hyi' ?_⟩
      rw [Array.setIfInBounds_comm _ _ hji, ← Act.put_comm a v vj h2]
      exact hd

/-- the first k are listed -/
def firstL (ops : Array Oper) : Nat → Array Bool
  | 0 => Array.replicate ops.size false
  | k + 1 => (firstL ops k).setIfInBounds k true
theorem firstL_size (ops : Array Oper) (k : Nat) : (firstL ops k).size = ops.size := by induction k with | zero => simp [firstL] | succ k ih => simp [firstL, ih]
/-- the first n operations may be walked in the order of the text -/
def okSeq (md : Region.Mode) (ops : Array Oper) (n : Nat) : Bool :=
  Region.noSelect ops && decide (n ≤ ops.size) && ((List.range n).all fun k => Region.free md ops (firstL ops k) k && (Region.ready md ops (firstL ops k)).contains k) &&
    ((List.range n).all fun p => (Region.ready md ops ((firstL ops n).setIfInBounds p false)).all fun j => decide (j < n))

def Seq (P : Program) (ops : Array Oper) (S : World → Prop) (K : Act → Prop) : List Oper → Act → Prop
  | [], a => K a
  | o :: rest, a => ∃ v, SY P ops S o v a ∧ Seq P ops S K rest (a.put o.dst v)

theorem firstL_get {ops : Array Oper} {j : Nat} (hj : j < ops.size) : ∀ k, (firstL ops k)[j]? = some (decide (j < k))
  | 0 => by simp [firstL, hj]
  | k + 1 => by
    simp only [firstL, Array.getElem?_setIfInBounds, firstL_size]
    by_cases h : k = j
    · subst h; simp [hj]
    · rw [if_neg h, firstL_get hj k]
      congr 1
      exact decide_eq_decide.2 (by omega)

theorem seq_det {n : Nat} (hok : okSeq md ops n = true) {K : Act → Prop} : ∀ (m k : Nat) (a : Act), k + m = n → Seq P ops S K ((ops.toList.take n).drop k) a →
    ∃ A, K A ∧ SDet P md ops S A (firstL ops n) m (firstL ops k) a := by
  unfold okSeq at hok
  simp only [Bool.and_eq_true, decide_eq_true_eq, List.all_eq_true, List.mem_range] at hok
  obtain ⟨⟨⟨hsel, hn⟩, hok⟩, hL⟩ := hok
  intro m
  induction m with
  | zero =>
    intro k a hk h
    obtain rfl : k = n := by omega
    rw [List.drop_of_length_le (by simp; omega)] at h
    exact ⟨a, h, rfl, rfl⟩
  | succ m ih =>
    intro k a hk h
    have hlt : k < ops.size := by omega
    have hl2 : k < (ops.toList.take n).length := by simp; omega
    rw [List.drop_eq_getElem_cons hl2] at h
    obtain ⟨v, hy, h⟩ := h
    obtain ⟨A, hA, hd⟩ := ih (k + 1) _ (by omega) h
    have ho : ops[k]? = some (ops.toList.take n)[k] := by simp [hlt]
    obtain ⟨h1, h2⟩ := hok k (by omega)
    refine ⟨A, hA, SDet.first ho (Region.noSelect_spec hsel) ?_ m _ _ (Region.free_spec ho h1) (by simpa using h2) hy hd⟩
    intro p j hp hp' hj
    have hps : p < ops.size := by
      rcases Nat.lt_or_ge p ops.size with h' | h'
      · exact h'
      · have : (firstL ops n)[p]? = none := Array.getElem?_eq_none (by rw [firstL_size]; exact h')
        simp [this] at hp'
    have hpn : p < n := by
      rw [Array.getD_eq_getD_getElem?, firstL_get hps n] at hp'
      simpa using hp'
    have hjn := hL p hpn j hj
    rw [Array.getD_eq_getD_getElem?, firstL_get (by omega) n]
    simpa using hjn

/-- all operations, in the order of the text -/
theorem wp_region_seq {id : Nat} {a : Act} {w : World} (S : World → Prop) (hm : P.follows .mixedOrders = true) (hok : okSeq .any ops ops.size = true) (hS : S w.drew)
    (h : Seq P ops S (fun A => ∀ w', S w' → Q .normal A w') ops.toList a) : (Code.region id ops true).wp P Q a w := by
  obtain ⟨A, hA, hd⟩ := seq_det (P := P) (S := S) (n := ops.size) hok ops.size 0 a (by omega) (by rw [List.drop_zero, List.take_of_length_le (by simp)]; exact h)
  refine wp_region_any hm ?_
  refine SDet.any (m := 0) (fun w' hw' => ⟨?_, hA w' hw'⟩) ops.size _ a _ hd hS
  unfold Region.ready
  rw [List.filter_eq_nil_iff]
  intro i hi
  have hi' : i < ops.size := by simpa using hi
  have := firstL_get hi' ops.size
  simp [this, hi']

/-- the first n of them so; the others as they come up -/
theorem wp_region_part {id : Nat} {a : Act} {w : World} (n : Nat) (S : World → Prop) (hm : P.follows .mixedOrders = true) (hok : okSeq .any ops n = true) (hS : S w.drew) {m : Nat} (hnm : n + m = ops.size)
    (h : Seq P ops S (fun A => ∀ w', S w' → wpAny P .any ops Q m (firstL ops n) A w') (ops.toList.take n) a) : (Code.region id ops true).wp P Q a w := by
  obtain ⟨A, hA, hd⟩ := seq_det (P := P) (S := S) (n := n) hok n 0 a (by omega) (by rw [List.drop_zero]; exact h)
  refine wp_region_any hm ?_
  rw [← hnm]
  exact SDet.any (m := m) hA n _ a _ (by rw [hnm]; exact hd) hS

theorem seq_go {K : Act → Prop} {o : Oper} {rest : List Oper} {a : Act} (v : Value) (hw : Region.wanted o (yielded ops a.tmps) = true) (hv : ∀ w, S w → Gives P S v ((execOp a.eval o).run P w))
    (h : Seq P ops S K rest (a.put o.dst v)) : Seq P ops S K (o :: rest) a := ⟨v, .inl ⟨hw, hv⟩, h⟩
theorem seq_val {K : Act → Prop} {o : Oper} {rest : List Oper} {a : Act} (v : Value) (hw : Region.wanted o (yielded ops a.tmps) = true) (hv : ∀ w, S w → (execOp a.eval o).run P w = .ok (.value v) w)
    (h : Seq P ops S K rest (a.put o.dst v)) : Seq P ops S K (o :: rest) a := seq_go v hw (fun w hS => by rw [hv w hS]; exact gives_value hS) h
theorem seq_call {K : Act → Prop} {o : Oper} {rest : List Oper} {a : Act} (v : Value) (f : FuncId) (args : Array Value) (hw : Region.wanted o (yielded ops a.tmps) = true) (hv : ∀ w, S w → (execOp a.eval o).run P w = .ok (.enter f args) w)
    (hc : ∀ w, S w → Calls P f args w fun e w'' => e = .returned v ∧ S w'') (h : Seq P ops S K rest (a.put o.dst v)) : Seq P ops S K (o :: rest) a := seq_go v hw (fun w hS => by rw [hv w hS]; exact gives_enter (hc w hS)) h
theorem seq_end {K : Act → Prop} {a : Act} (h : K a) : Seq P ops S K [] a := h
theorem seq_skip {K : Act → Prop} {o : Oper} {rest : List Oper} {a : Act} (hw : Region.wanted o (yielded ops a.tmps) = false) (h : Seq P ops S K rest (a.put o.dst undef)) : Seq P ops S K (o :: rest) a :=
  ⟨undef, .inr ⟨hw, rfl⟩, h⟩
end
end Go.Proofs.YtmmakljmikdooaaDoor
