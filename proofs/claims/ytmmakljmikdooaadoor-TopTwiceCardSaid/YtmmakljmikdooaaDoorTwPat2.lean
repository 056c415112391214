import Derived.Test.YtmmakljmikdooaaDoorTwPat1
import Derived.Test.YtmmakljmikdooaaDoorTw12
/- Chapter 4, plain: the line of a flip is there. -/
namespace Go.Proofs.YtmmakljmikdooaaDoor
set_option linter.unusedVariables false

theorem flip_cases {g : Int} (hg : g = 4 ∨ g = 6) {t : Nat} (ht : t < g.toNat) :
    (∀ z : Pt, lin g t true z = ⟨z.x, -z.y⟩) ∨ (∀ z : Pt, lin g t true z = ⟨z.y, z.x⟩) ∨ (∀ z : Pt, lin g t true z = ⟨-z.x, z.y⟩) ∨ (∀ z : Pt, lin g t true z = ⟨-z.y, -z.x⟩) ∨
    (∀ z : Pt, lin g t true z = ⟨z.x + z.y, -z.y⟩) ∨ (∀ z : Pt, lin g t true z = ⟨-z.x, z.x + z.y⟩) ∨ (∀ z : Pt, lin g t true z = ⟨-z.x - z.y, z.y⟩) ∨ (∀ z : Pt, lin g t true z = ⟨z.x, -z.x - z.y⟩) := by
  rcases hg with rfl | rfl
  · have h : t = 0 ∨ t = 1 ∨ t = 2 ∨ t = 3 := by have : (4 : Int).toNat = 4 := rfl; omega
    rcases h with rfl | rfl | rfl | rfl
    · exact .inl fun z => by simp [lin, rot, mir]
    · exact .inr (.inl fun z => by simp [lin, rot, rt, mir])
    · exact .inr (.inr (.inl fun z => by simp [lin, rot, rt, mir]))
    · exact .inr (.inr (.inr (.inl fun z => by simp [lin, rot, rt, mir])))
  · have h : t = 0 ∨ t = 1 ∨ t = 2 ∨ t = 3 ∨ t = 4 ∨ t = 5 := by have : (6 : Int).toNat = 6 := rfl; omega
    rcases h with rfl | rfl | rfl | rfl | rfl | rfl
    · exact .inr (.inr (.inr (.inr (.inl fun z => by simp [lin, rot, mir]))))
    · exact .inr (.inl fun z => by simp [lin, rot, rt, mir]; try omega)
    · exact .inr (.inr (.inr (.inr (.inr (.inl fun z => by simp [lin, rot, rt, mir]; try omega)))))
    · exact .inr (.inr (.inr (.inr (.inr (.inr (.inl fun z => by simp [lin, rot, rt, mir]; try omega))))))
    · exact .inr (.inr (.inr (.inl fun z => by simp [lin, rot, rt, mir]; try omega)))
    · exact .inr (.inr (.inr (.inr (.inr (.inr (.inr fun z => by simp [lin, rot, rt, mir]; try omega))))))
theorem flip_twice {g : Int} (hg : g = 4 ∨ g = 6) {t : Nat} (ht : t < g.toNat) (z : Pt) : lin g t true (lin g t true z) = z := by
  rcases flip_cases hg ht with h | h | h | h | h | h | h | h <;> (apply Pt.ext' <;> (rw [h, h]; try dsimp only) <;> try omega)
section
variable {W H : Nat} {cs : List Int}
theorem StepP.zero : StepP W H cs ⟨0, 0⟩ := fun z => by
  congr 1
  unfold addP
  apply Pt.ext' <;> (dsimp only; omega)
theorem StepP.add {a b : Pt} (h : StepP W H cs a) (k : StepP W H cs b) : StepP W H cs (addP a b) := fun z => by
  rw [h z, k (addP z a)]
  congr 1
  unfold addP
  apply Pt.ext' <;> (dsimp only; omega)
theorem StepP.neg {a : Pt} (h : StepP W H cs a) : StepP W H cs ⟨-a.x, -a.y⟩ := fun z => by
  have := h (addP z ⟨-a.x, -a.y⟩)
  rw [this]
  congr 1
  unfold addP
  apply Pt.ext' <;> (dsimp only; omega)
theorem StepP.scN {a : Pt} (h : StepP W H cs a) : ∀ n : Nat, StepP W H cs (sc n a)
  | 0 => by
    have e : sc ((0 : Nat) : Int) a = ⟨0, 0⟩ := by unfold sc; simp
    rw [e]; exact StepP.zero
  | n + 1 => by
    have e : sc ((n + 1 : Nat) : Int) a = addP (sc (n : Int) a) a := by
      unfold sc addP
      apply Pt.ext' <;> (dsimp only; rw [Int.natCast_add, Int.add_mul]; omega)
    rw [e]; exact (StepP.scN h n).add h
theorem StepP.sc {a : Pt} (h : StepP W H cs a) (n : Int) : StepP W H cs (sc n a) := by
  rcases Int.natAbs_eq n with e | e
  · rw [e]; exact h.scN _
  · have e2 : Go.Proofs.YtmmakljmikdooaaDoor.sc n a = ⟨-(Go.Proofs.YtmmakljmikdooaaDoor.sc (n.natAbs : Int) a).x, -(Go.Proofs.YtmmakljmikdooaaDoor.sc (n.natAbs : Int) a).y⟩ := by
      unfold Go.Proofs.YtmmakljmikdooaaDoor.sc
      apply Pt.ext' <;> (dsimp only; conv => lhs; rw [e])
      · rw [Int.neg_mul]
      · rw [Int.neg_mul]
    rw [e2]; exact (h.scN _).neg
/-- a flip that keeps a pattern takes steps to steps -/
theorem StepP.flip {g : Int} (hg : g = 4 ∨ g = 6) {t : Nat} (ht : t < g.toNat) {b a : Pt} (hf : KeepP W H cs g t true b) (h : StepP W H cs a) : StepP W H cs (lin g t true a) := fun z => by
  have e1 : z = addP (lin g t true (lin g t true (addP z ⟨-b.x, -b.y⟩))) b := by
    rw [flip_twice hg ht]
    unfold addP
    apply Pt.ext' <;> (dsimp only; omega)
  have h1 := hf (lin g t true (addP z ⟨-b.x, -b.y⟩))
  have h2 := hf (addP (lin g t true (addP z ⟨-b.x, -b.y⟩)) a)
  rw [← e1] at h1
  have e2 : addP (lin g t true (addP (lin g t true (addP z ⟨-b.x, -b.y⟩)) a)) b = addP z (lin g t true a) := by
    rw [lin_add, flip_twice hg ht]
    unfold addP
    apply Pt.ext' <;> (dsimp only; omega)
  rw [e2] at h2
  rw [← h1, ← h2]
  exact h _
/-- all steps are made of the finest pair -/
theorem has_of {X x Y : Int} (h : FinP (StepP W H cs) X x Y) {z : Pt} (hz : StepP W H cs z) : hasF ⟨X, 0⟩ ⟨x, Y⟩ z = true := by
  have hX := h.X1
  have hY := h.Y1
  -- the rest of a step's height is none
  have hr0 : z.y % Y = 0 := by
    rcases Int.lt_or_le 0 (z.y % Y) with k | k
    · exfalso
      have s1 := (hz.add (h.kY.sc (-(z.y / Y))))
      have s2 := s1.add (h.kX.sc (-((addP z (sc (-(z.y / Y)) ⟨x, Y⟩)).x / X)))
      refine h.nY (z.y % Y) ((addP z (sc (-(z.y / Y)) ⟨x, Y⟩)).x % X) (by omega) (Int.emod_lt_of_pos _ (by omega)) (Int.emod_nonneg _ (by omega)) (Int.emod_lt_of_pos _ (by omega)) ?_
      have e : addP (addP z (sc (-(z.y / Y)) ⟨x, Y⟩)) (sc (-((addP z (sc (-(z.y / Y)) ⟨x, Y⟩)).x / X)) ⟨X, 0⟩) = ⟨(addP z (sc (-(z.y / Y)) ⟨x, Y⟩)).x % X, z.y % Y⟩ := by
        generalize hq : (addP z (sc (-(z.y / Y)) ⟨x, Y⟩)).x = q
        have hq2 : (addP z (sc (-(z.y / Y)) ⟨x, Y⟩)).y = z.y % Y := by
          unfold addP sc
          dsimp only
          have := Int.emod_add_mul_ediv z.y Y
          rw [Int.neg_mul, Int.mul_comm]
          omega
        have h3 := Int.emod_add_mul_ediv q X
        apply Pt.ext'
        · show (addP z (sc (-(z.y / Y)) ⟨x, Y⟩)).x + (-(q / X)) * X = q % X
          rw [hq, Int.neg_mul, Int.mul_comm]
          omega
        · show (addP z (sc (-(z.y / Y)) ⟨x, Y⟩)).y + (-(q / X)) * 0 = z.y % Y
          rw [hq2]; omega
      rw [e] at s2
      exact s2
    · have := Int.emod_nonneg z.y (show Y ≠ 0 by omega)
      omega
  have hdy : Y ∣ z.y := Int.dvd_of_emod_eq_zero hr0
  obtain ⟨q, hq⟩ := hdy
  have hqd : z.y.tdiv Y = q := by rw [hq]; exact Int.mul_tdiv_cancel_left _ (by omega)
  have s1 := hz.add (h.kY.sc (-q))
  have e1 : addP z (sc (-q) ⟨x, Y⟩) = ⟨z.x - q * x, 0⟩ := by
    unfold addP sc
    apply Pt.ext'
    · dsimp only; rw [Int.neg_mul]; omega
    · dsimp only; rw [hq, Int.neg_mul, Int.mul_comm]; omega
  rw [e1] at s1
  generalize hk : z.x - q * x = k at *
  have hk0 : k % X = 0 := by
    rcases Int.lt_or_le 0 (k % X) with j | j
    · exfalso
      refine h.nX (k % X) (by omega) (Int.emod_lt_of_pos _ (by omega)) ?_
      have s2 := s1.add (h.kX.sc (-(k / X)))
      have e2 : addP ⟨k, 0⟩ (sc (-(k / X)) ⟨X, 0⟩) = ⟨k % X, 0⟩ := by
        have h3 := Int.emod_add_mul_ediv k X
        unfold addP sc
        apply Pt.ext'
        · dsimp only; rw [Int.neg_mul, Int.mul_comm]; omega
        · dsimp only; omega
      rw [e2] at s2
      exact s2
    · have := Int.emod_nonneg k (show X ≠ 0 by omega)
      omega
  unfold hasF
  dsimp only
  rw [hqd, hk, Bool.and_eq_true, decide_eq_true_iff, decide_eq_true_iff]
  exact ⟨Int.tmod_eq_zero_of_dvd ⟨q, hq⟩, Int.tmod_eq_zero_of_dvd (Int.dvd_of_emod_eq_zero hk0)⟩
theorem line_ok {g : Int} (hg : g = 4 ∨ g = 6) {t : Nat} (ht : t < g.toNat) {b : Pt} (hf : KeepP W H cs g t true b) {X x Y : Int} (h : FinP (StepP W H cs) X x Y) : LineOk g ⟨X, 0⟩ ⟨x, Y⟩ t := by
  have hX := h.X1
  have hY := h.Y1
  have hx0 := h.x0
  have a1 : StepP W H cs (alongF g t ⟨X, 0⟩) := h.kX.add (h.kX.flip hg ht hf)
  have a2 : StepP W H cs (alongF g t ⟨x, Y⟩) := h.kY.add (h.kY.flip hg ht hf)
  refine ⟨?_, has_of h ?_⟩
  · unfold lineF
    cases hz : isZ (alongF g t ⟨X, 0⟩)
    · rw [if_neg (by simp)]; exact hz
    · rw [if_pos rfl]
      unfold isZ at *
      simp only [decide_eq_true_eq, decide_eq_false_iff_not] at *
      unfold alongF addP at *
      rcases flip_cases hg ht with k | k | k | k | k | k | k | k <;> (rw [k] at hz ⊢; dsimp only at hz ⊢; omega)
  · unfold lineF
    split
    · exact a2
    · exact a1
end
theorem lines_ok {c : Ch} {W H : Nat} (hc : OkC c W H) : ∀ X x Y, FinP (stepC c W H) X x Y → ∀ m ∈ movesC c W H, m.f = true → LineOk c.g ⟨X, 0⟩ ⟨x, Y⟩ m.t := by
  intro X x Y hfin m hm hf
  obtain ⟨ht, p, _, hb, hk⟩ := allL_mem hm
  rw [hf, keeps_iff (tor_one hc) (tor_dvd W H).1 (tor_dvd W H).2] at hk
  exact line_ok hc.g ht hk (hfin.congr fun b => step_iff hc b)
end Go.Proofs.YtmmakljmikdooaaDoor
