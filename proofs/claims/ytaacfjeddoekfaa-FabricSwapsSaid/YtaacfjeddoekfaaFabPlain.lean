/- Chapter 12, plain: loops numbered along their yarns. -/
import Derived.Test.YtaacfjeddoekfaaKnitPlain2
import Derived.Test.YtaacfjeddoekfaaKnitMem
namespace Go.Proofs.Ytaacfjeddoekfaa
set_option linter.unusedVariables false

/-- loop i comes ahead of loop x along the yarns -/
def aheadB (cs : List Int) (x i : Nat) : Bool := decide (cs.getD i 0 < cs.getD x 0 ∨ (cs.getD i 0 = cs.getD x 0 ∧ i < x))
theorem ahead_iff (cs : List Int) (x i : Nat) : aheadB cs x i = true ↔ cs.getD i 0 < cs.getD x 0 ∨ (cs.getD i 0 = cs.getD x 0 ∧ i < x) := by unfold aheadB; exact decide_eq_true_iff
theorem ahead_asym {cs : List Int} {x i : Nat} (h : aheadB cs x i = true) : aheadB cs i x = false := by
  rw [ahead_iff] at h
  unfold aheadB
  rw [decide_eq_false_iff_not]
  omega
theorem ahead_self (cs : List Int) (x : Nat) : aheadB cs x x = false := by unfold aheadB; rw [decide_eq_false_iff_not]; omega
/-- how many loops come ahead -/
def num (cs : List Int) (x : Nat) : Nat := (List.range cs.length).countP (aheadB cs x)
theorem perm_range {n : Nat} {σ τ : Nat → Nat} (hst : ∀ k, σ (τ k) = k) (hts : ∀ k, τ (σ k) = k) (hlt : ∀ k, k < n → σ k < n) (hlt' : ∀ k, k < n → τ k < n) : ((List.range n).map σ).Perm (List.range n) := by
  have inj : ∀ a b, σ a = σ b → a = b := fun a b e => by have := congrArg τ e; rwa [hts, hts] at this
  rw [List.perm_ext_iff_of_nodup]
  · intro a
    simp only [List.mem_map, List.mem_range]
    constructor
    · rintro ⟨k, hk, rfl⟩; exact hlt k hk
    · intro ha; exact ⟨τ a, hlt' a ha, hst a⟩
  · unfold List.Nodup
    rw [List.pairwise_map]
    exact List.Pairwise.imp (fun h e => h (inj _ _ e)) List.nodup_range
  · exact List.nodup_range
theorem countP_lt (n t : Nat) (h : t ≤ n) : (List.range n).countP (fun s => decide (s < t)) = t := by
  induction n with
  | zero => simp; omega
  | succ n ih =>
    rw [List.range_succ, List.countP_append]
    rcases Nat.lt_or_eq_of_le h with h1 | rfl
    · rw [ih (by omega)]; simp; omega
    · have : (List.range n).countP (fun s => decide (s < n + 1)) = n := by
        rw [List.countP_eq_length.2 (fun a ha => by simp at ha ⊢; omega), List.length_range]
      rw [this]; simp
/-- the order that sorting finds is that of the numbers -/
theorem num_sorted {cs : List Int} {σ τ : Nat → Nat} (hst : ∀ k, σ (τ k) = k) (hts : ∀ k, τ (σ k) = k) (hlt : ∀ k, k < cs.length → σ k < cs.length) (hlt' : ∀ k, k < cs.length → τ k < cs.length)
    (hsd : ∀ s t, s < t → t < cs.length → aheadB cs (σ t) (σ s) = true) {t : Nat} (ht : t < cs.length) : num cs (σ t) = t := by
  unfold num
  rw [← (perm_range hst hts hlt hlt').countP_eq, List.countP_map]
  have : ((List.range cs.length).countP (aheadB cs (σ t) ∘ σ)) = (List.range cs.length).countP (fun s => decide (s < t)) := by
    refine List.countP_congr fun s hs => ?_
    have hs' : s < cs.length := by simpa using hs
    show aheadB cs (σ t) (σ s) = true ↔ decide (s < t) = true
    rw [decide_eq_true_iff]
    rcases Nat.lt_trichotomy s t with h | rfl | h
    · exact ⟨fun _ => h, fun _ => hsd s t h ht⟩
    · rw [ahead_self]; exact ⟨(fun h => by cases h), (fun h => by omega)⟩
    · rw [ahead_asym (hsd t s h hs')]; exact ⟨(fun h => by cases h), (fun h' => by omega)⟩
  rw [this, countP_lt _ _ (by omega)]
/-- a renaming that keeps carriers, and the order of each one's loops, keeps the numbers -/
theorem num_turn {cs cs' : List Int} {π : Nat → Nat} (hππ : ∀ k, π (π k) = k) (hlen : cs'.length = cs.length) (hlt : ∀ k, k < cs.length → π k < cs.length) (hc : ∀ i, i < cs.length → cs'.getD (π i) 0 = cs.getD i 0)
    (ho : ∀ i j, i < cs.length → j < cs.length → cs.getD i 0 = cs.getD j 0 → (i < j ↔ π i < π j)) {x : Nat} (hx : x < cs.length) : num cs' (π x) = num cs x := by
  unfold num
  rw [hlen, ← (perm_range hππ hππ hlt hlt).countP_eq, List.countP_map]
  refine List.countP_congr fun i hi => ?_
  have hi' : i < cs.length := by simpa using hi
  show aheadB cs' (π x) (π i) = true ↔ aheadB cs x i = true
  rw [ahead_iff, ahead_iff, hc i hi', hc x hx]
  constructor
  · rintro (h | ⟨h1, h2⟩)
    · exact .inl h
    · exact .inr ⟨h1, (ho i x hi' hx h1).2 h2⟩
  · rintro (h | ⟨h1, h2⟩)
    · exact .inl h
    · exact .inr ⟨h1, (ho i x hi' hx h1).1 h2⟩
theorem num_lt {cs : List Int} {x : Nat} (hx : x < cs.length) : num cs x < cs.length := by
  unfold num
  rcases Nat.lt_or_ge ((List.range cs.length).countP (aheadB cs x)) cs.length with h | h
  · exact h
  · exfalso
    have e : (List.range cs.length).countP (aheadB cs x) = (List.range cs.length).length := by
      have := List.countP_le_length (p := aheadB cs x) (l := List.range cs.length)
      rw [List.length_range] at *
      omega
    have := List.countP_eq_length.1 e x (by simpa using hx)
    rw [ahead_self] at this
    cases this
end Go.Proofs.Ytaacfjeddoekfaa
