/- Chapter 12, plain: what is left out by tidying was not needed; how many loops each yarn has. -/
import Derived.Test.YtaacfjeddoekfaaFabPlain2
namespace Go.Proofs.Ytaacfjeddoekfaa
set_option linter.unusedVariables false

/-- no stitch of a list is wrong -/
def Flawless (N : Nat) (l : List Sti) : Prop := ∀ e ∈ errsK N zeroK l, e = 0
theorem good_run {N : Nat} {l : List Sti} (h : Flawless N l) : runF N l = (0, 0) ∧ runK N l = told N (afterK N l) := by
  have := firstBad_none h
  unfold runF runK
  rw [this]
  exact ⟨rfl, rfl⟩
theorem bad_first : ∀ {l : List Int}, (¬ ∀ e ∈ l, e = 0) → ∃ e i, e ≠ 0 ∧ firstBad l = some (e, i)
  | [], h => absurd (fun e he => by cases he) h
  | e :: l, h => by
    by_cases c : e = 0
    · obtain ⟨e', i, h1, h2⟩ := bad_first (l := l) fun hl => h fun x hx => by
        rcases List.mem_cons.1 hx with r | r
        · rw [r, c]
        · exact hl x r
      exact ⟨e', i + 1, h1, by rw [firstBad, if_neg (fun k => k c), h2]; rfl⟩
    · exact ⟨e, 0, c, by rw [firstBad, if_pos c]⟩
theorem run_good {N : Nat} {l : List Sti} (h : (runF N l).1 = 0) : Flawless N l := by
  refine Classical.byContradiction fun hn => ?_
  obtain ⟨e, i, h1, h2⟩ := bad_first hn
  unfold runF at h
  rw [h2] at h
  exact h1 h
theorem run_bad {N : Nat} {l : List Sti} (h : (runF N l).1 ≠ 0) : runK N l = noKn := by
  unfold runF at h
  unfold runK
  cases e : firstBad (errsK N zeroK l) with
  | none => rw [e] at h; exact absurd rfl h
  | some p => rfl
theorem do_good {N : Nat} {k : KS} {x : Sti} (h : wrongK N k x = 0) : doK N k x = stepK k x := by unfold doK; rw [if_pos h]

/-! ### tidying -/
/-- is what comes next, misses aside, a rack? -/
def nextRack : List Sti → Bool
  | [] => false
  | x :: l => if x.d = 3 then nextRack l else decide (x.d = 6)
def tidyK : Int → List Sti → List Sti
  | _, [] => []
  | r, x :: l => if x.d = 3 then tidyK r l else if x.d = 6 then (if x.t = r ∨ nextRack l = true then tidyK r l else x :: tidyK x.t l) else x :: tidyK r l
theorem tidy_len : ∀ (l : List Sti) (r : Int), (tidyK r l).length ≤ l.length
  | [], r => Nat.le_refl _
  | x :: l, r => by
    have h1 := tidy_len l r
    have h2 := tidy_len l x.t
    unfold tidyK
    split
    · rw [List.length_cons]; omega
    split
    · split
      · rw [List.length_cons]; omega
      · rw [List.length_cons, List.length_cons]; omega
    · rw [List.length_cons, List.length_cons]; omega
theorem next_tidy : ∀ (l : List Sti) (r : Int), nextRack l = false → nextRack (tidyK r l) = false
  | [], r, h => h
  | x :: l, r, h => by
    unfold nextRack at h
    unfold tidyK
    split
    · next e => rw [if_pos e] at h; exact next_tidy l r h
    next e =>
    rw [if_neg e, decide_eq_false_iff_not] at h
    rw [if_neg h]
    unfold nextRack
    rw [if_neg e, decide_eq_false_iff_not]
    exact h
theorem tidy_twice : ∀ (l : List Sti) (r : Int), tidyK r (tidyK r l) = tidyK r l
  | [], r => rfl
  | x :: l, r => by
    have h1 := tidy_twice l r
    have h2 := tidy_twice l x.t
    rw [tidyK]
    split
    · exact h1
    next e3 =>
    split
    · next e6 =>
      split
      · exact h1
      · next hn =>
        rw [tidyK, if_neg e3, if_pos e6, if_neg, h2]
        rintro (c | c)
        · exact hn (.inl c)
        · rw [next_tidy l _ (by
            cases k : nextRack l with
            | false => rfl
            | true => exact absurd (.inr k) hn)] at c
          cases c
    · next e6 => rw [tidyK, if_neg e3, if_neg e6, h1]
/-- what was knitted, rack and count aside -/
structure Alike (k k' : KS) : Prop where
  loops : k'.loops = k.loops
  on : k'.on = k.on
  loose : k'.loose = k.loose
  done : k'.done ≤ k.done
theorem wrong_same {N : Nat} {k k' : KS} {x : Sti} (ha : Alike k k') (hr : x.d ≠ 6 → k'.rack = k.rack) (h : wrongK N k x = 0) : wrongK N k' x = 0 := by
  have hd := (wrong_bounds h).2.2.1
  have := ha.done
  unfold wrongK at h ⊢
  have e1 : k'.ln x = k.ln x := by unfold KS.ln; rw [ha.on]
  by_cases h6 : x.d = 6
  · rw [if_neg (by omega), if_neg (by omega), if_pos h6]
    rw [if_neg (by omega), if_neg (by omega), if_pos h6] at h
    exact h
  · have e2 : k'.lf x = k.lf x := by unfold KS.lf; rw [ha.on, hr h6]
    rw [e1, e2, hr h6, if_neg (by omega : ¬ 4096 ≤ k'.done)]
    rw [if_neg (by omega : ¬ 4096 ≤ k.done)] at h
    exact h
theorem step_same {k k' : KS} {x : Sti} (ha : Alike k k') (hr : k'.rack = k.rack) : Alike (stepK k x) (stepK k' x) ∧ (stepK k' x).rack = (stepK k x).rack := by
  obtain ⟨a1, a2, a3, a4⟩ := ha
  unfold stepK
  rw [a1, a2, a3, hr]
  have hd : k'.done + 1 ≤ k.done + 1 := by omega
  (repeat' split) <;> exact ⟨⟨rfl, rfl, rfl, hd⟩, rfl⟩
theorem tidy_run {N : Nat} : ∀ (l : List Sti) (r : Int) (k k' : KS), Alike k k' → k'.rack = r → (k.rack = r ∨ nextRack l = true) → (∀ e ∈ errsK N k l, e = 0) →
    (∀ e ∈ errsK N k' (tidyK r l), e = 0) ∧ told N ((tidyK r l).foldl (doK N) k') = told N (l.foldl (doK N) k)
  | [], r, k, k', ha, hr, hp, hg => by
    refine ⟨hg, ?_⟩
    have hk : k.rack = r := hp.resolve_right (fun c => by cases c)
    show told N k' = told N k
    unfold told
    rw [ha.loops, ha.on, ha.loose, hr, hk]
  | x :: l, r, k, k', ha, hr, hp, hg => by
    rw [errsK] at hg
    have hw := hg _ (List.mem_cons_self ..)
    have hl : ∀ e ∈ errsK N (stepK k x) l, e = 0 := fun e he => hg e (List.mem_cons_of_mem _ (by rw [do_good hw]; exact he))
    rw [List.foldl_cons, do_good hw]
    have hsk : x.d = 3 ∨ x.d = 6 → Alike (stepK k x) k' ∧ (x.d = 3 → (stepK k x).rack = k.rack) ∧ (x.d = 6 → (stepK k x).rack = x.t) := fun h => by
      have := ha.done
      rcases h with h | h
      · unfold stepK
        rw [if_neg (by omega), if_neg (by omega), if_neg (by omega), if_neg (by omega), if_neg (by omega)]
        exact ⟨⟨ha.loops, ha.on, ha.loose, by dsimp only; omega⟩, fun _ => rfl, fun c => by omega⟩
      · unfold stepK
        rw [if_pos h]
        exact ⟨⟨ha.loops, ha.on, ha.loose, by dsimp only; omega⟩, fun c => by omega, fun _ => rfl⟩
    rw [tidyK]
    by_cases h3 : x.d = 3
    · rw [if_pos h3]
      obtain ⟨s1, s2, _⟩ := hsk (.inl h3)
      refine tidy_run l r _ k' s1 hr ?_ hl
      rw [s2 h3]
      rcases hp with c | c
      · exact .inl c
      · rw [nextRack, if_pos h3] at c; exact .inr c
    rw [if_neg h3]
    by_cases h6 : x.d = 6
    · rw [if_pos h6]
      obtain ⟨s1, _, s2⟩ := hsk (.inr h6)
      by_cases hc : x.t = r ∨ nextRack l = true
      · rw [if_pos hc]
        refine tidy_run l r _ k' s1 hr ?_ hl
        rw [s2 h6]
        exact hc
      · rw [if_neg hc]
        have hw' : wrongK N k' x = 0 := wrong_same ha (fun c => absurd h6 c) hw
        have hk' : Alike (stepK k x) (stepK k' x) ∧ (stepK k' x).rack = x.t := by
          unfold stepK
          rw [if_pos h6, if_pos h6]
          exact ⟨⟨ha.loops, ha.on, ha.loose, by have := ha.done; dsimp only; omega⟩, rfl⟩
        have := tidy_run l x.t _ _ hk'.1 hk'.2 (.inl (s2 h6)) hl
        rw [errsK, List.foldl_cons, do_good hw']
        refine ⟨fun e he => ?_, this.2⟩
        rcases List.mem_cons.1 he with c | c
        · rw [c, hw']
        · exact this.1 e c
    · rw [if_neg h6]
      have hk : k.rack = r := hp.resolve_right fun c => by
        rw [nextRack, if_neg h3, decide_eq_true_iff] at c
        exact h6 c
      have hrk : k'.rack = k.rack := by rw [hr, hk]
      have hw' : wrongK N k' x = 0 := wrong_same ha (fun _ => hrk) hw
      have hs := step_same (x := x) ha hrk
      have hrr : (stepK k x).rack = k.rack := by unfold stepK; rw [if_neg h6]; (repeat' split) <;> rfl
      have := tidy_run l r _ _ hs.1 (by rw [hs.2, hrr, hk]) (.inl (by rw [hrr, hk])) hl
      rw [errsK, List.foldl_cons, do_good hw']
      refine ⟨fun e he => ?_, this.2⟩
      rcases List.mem_cons.1 he with c | c
      · rw [c, hw']
      · exact this.1 e c
theorem tidy_good {N : Nat} {l : List Sti} (h : Flawless N l) : Flawless N (tidyK 0 l) ∧ told N (afterK N (tidyK 0 l)) = told N (afterK N l) :=
  tidy_run l 0 zeroK zeroK ⟨rfl, rfl, rfl, Nat.le_refl _⟩ rfl (.inl rfl) h

/-! ### how many loops each yarn has -/
def yarnK (x : Sti) : Bool := decide (x.d = 1 ∨ x.d = 2)
theorem step_cars (k : KS) (x : Sti) : cars (stepK k x).loops = cars k.loops ++ (if yarnK x = true then [x.c] else []) := by
  unfold stepK cars yarnK
  by_cases h6 : x.d = 6
  · rw [if_pos h6]; simp; omega
  rw [if_neg h6]
  by_cases h1 : x.d = 1
  · rw [if_pos h1]; simp [h1]
  rw [if_neg h1]
  by_cases h2 : x.d = 2
  · rw [if_pos h2]; simp [h2]
  rw [if_neg h2]
  (repeat' split) <;> first | (simp; done) | (simp at *; omega)
theorem good_cars {N : Nat} : ∀ (l : List Sti) (k : KS), (∀ e ∈ errsK N k l, e = 0) → cars (l.foldl (doK N) k).loops = cars k.loops ++ (l.filter yarnK).map Sti.c
  | [], k, _ => by simp
  | x :: l, k, hg => by
    rw [errsK] at hg
    have hw := hg _ (List.mem_cons_self ..)
    have hl : ∀ e ∈ errsK N (stepK k x) l, e = 0 := fun e he => hg e (List.mem_cons_of_mem _ (by rw [do_good hw]; exact he))
    rw [List.foldl_cons, do_good hw, good_cars l _ hl, step_cars, List.append_assoc]
    congr 1
    by_cases h : yarnK x = true
    · rw [if_pos h, List.filter_cons_of_pos h]; rfl
    · rw [if_neg h, List.filter_cons_of_neg h]; rfl
theorem laid_there {N : Nat} {l : List Sti} (h : Flawless N l) (c : Int) : (l.filter yarnK).countP (fun x => x.c == c) = (cars (cloth (told N (afterK N l))).loops).count c := by
  rw [(cloth_cars (told N (afterK N l))).count_eq]
  have e : cars (told N (afterK N l)).loops = (l.filter yarnK).map Sti.c := by
    have := good_cars l zeroK h
    rw [show cars zeroK.loops = [] from rfl, List.nil_append] at this
    exact this
  rw [e, List.count, List.countP_map]
  rfl
end Go.Proofs.Ytaacfjeddoekfaa
