/- lib/Seq's law within a round of a loop over an iterator, at the wide fence. -/
import Derived.Test.YtmmakljmikdooaaDoorSeq
import Derived.RangeFuncNested
import Derived.OrdersIn
namespace Go.Proofs.YtmmakljmikdooaaDoor
set_option linter.unusedVariables false

section
variable {P : Program} {ops : Array Oper} {md : Region.Mode} {S : World → Prop} {Q : Exit → Act → World → Prop} {n l : Nat}

def noDefer (ops : Array Oper) : Bool := ops.all fun o => match o.op with
  | .defer _ => false
  | _ => true
theorem noDefer_spec (h : noDefer ops = true) {i : Nat} {o : Oper} (hi : ops[i]? = some o) : ∀ c, o.op ≠ .defer c := by
  intro c hc
  unfold noDefer at h
  have := Array.all_eq_true.1 h i (Array.getElem?_eq_some_iff.1 hi).1
  rw [(Array.getElem?_eq_some_iff.1 hi).2, hc] at this
  cases this
theorem SY.wpOpIn {i : Nat} {o : Oper} {v : Value} {a : Act} (hd : noDefer ops = true) (hi : ops[i]? = some o) (hy : SY P ops S o v a) {K : Act → World → Prop} {w : World} (hS : S w) (h : ∀ w', S w' → K (a.put o.dst v) w') :
    wpOpIn (Fence.wide.inRound l) n P ops Q i K a w := by
  unfold Go.wpOpIn
  simp only [hi]
  rcases hy with ⟨hw, hv⟩ | ⟨hw, rfl⟩
  · simp only [hw, if_true, Oper.wpIn]
    refine ⟨fun _ _ => trivial, ?_⟩
    have e : (Fence.wide.inRound l).round = some l := rfl
    rw [e, Oper.semAt_eq _ _ _ (noDefer_spec hd hi)]
    have := hv w hS
    generalize (execOp a.eval o).run P w = r at *
    cases r with
    | ok n' w' =>
      cases n' <;> simp only [Gives] at this <;> simp only [Oper.uponIn]
      case value u => obtain ⟨rfl, h1⟩ := this; exact h _ h1
      case enter f args =>
        refine ⟨fun hd => (by cases hd), ?_⟩
        refine (CallsIn.inRound l (callsIn_wide.2 this)).mono fun e w'' he => ?_
        obtain ⟨rfl, h1⟩ := he
        exact h _ h1
    | halt x w' => cases this
  · simp only [hw, Bool.false_eq_true, if_false]; exact ⟨fun _ _ => trivial, h _ hS⟩

theorem SDet.anyIn {A : Act} {L : Array Bool} {m : Nat} (hd : noDefer ops = true) (hQ : ∀ w', S w' → wpAnyIn (Fence.wide.inRound l) n P md ops Q m L A w') : ∀ (k : Nat) (listed : Array Bool) (a : Act) (w : World), SDet P md ops S A L k listed a → S w → wpAnyIn (Fence.wide.inRound l) n P md ops Q (k + m) listed a w
  | 0, listed, a, w, h, hS => by
    obtain ⟨rfl, rfl⟩ := h
    rw [Nat.zero_add]
    exact hQ w hS
  | k + 1, listed, a, w, h, hS => by
    rw [Nat.add_right_comm]
    refine ⟨fun h0 => absurd h0 h.1, fun i hi => ?_⟩
    obtain ⟨o, v, ho, hy, hdd⟩ := h.2 i hi
    exact hy.wpOpIn hd ho hS fun w' hw' => SDet.anyIn hd hQ k _ _ w' hdd hw'

/-- all operations, in the order of the text, within a round -/
theorem wpIn_region_seq {id : Nat} {a : Act} {w : World} (S : World → Prop) (hm : P.follows .mixedOrders = true) (hd : noDefer ops = true) (hok : okSeq .any ops ops.size = true) (hS : S w.drew)
    (h : Seq P ops S (fun A => ∀ w', S w' → Q .normal A w') ops.toList a) : (Code.region id ops true).wpIn (Fence.wide.inRound l) n P Q a w := by
  obtain ⟨A, hA, hdd⟩ := seq_det (P := P) (S := S) (n := ops.size) hok ops.size 0 a (by omega) (by rw [List.drop_zero, List.take_of_length_le (by simp)]; exact h)
  refine wpIn_region_any hm ?_
  refine SDet.anyIn (m := 0) hd (fun w' hw' => ⟨?_, hA w' hw'⟩) ops.size _ a _ hdd hS
  unfold Region.ready
  rw [List.filter_eq_nil_iff]
  intro i hi
  have hi' : i < ops.size := by simpa using hi
  have := firstL_get hi' ops.size
  simp [this, hi']
end
end Go.Proofs.YtmmakljmikdooaaDoor
