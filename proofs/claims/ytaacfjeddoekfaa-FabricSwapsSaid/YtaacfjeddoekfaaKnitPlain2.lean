/- Chapter 11, plain: seen from behind; without what was refused; no loop is lost. -/
import Derived.Test.YtaacfjeddoekfaaKnitPlain
namespace Go.Proofs.Ytaacfjeddoekfaa
set_option linter.unusedVariables false

/-! ### seen from behind -/
def flip (b : Int) : Int := if b = 0 ∨ b = 1 then 1 - b else b
def turnS (x : Sti) : Sti := ⟨x.d, flip x.b, x.n, x.c, if x.d = 6 ∧ -4 ≤ x.t ∧ x.t ≤ 4 then -x.t else x.t⟩
def turnK (k : KS) : KS := ⟨k.loops, fun b n => k.on (flip b) n, k.loose, -k.rack, k.done⟩
theorem flip_flip (b : Int) : flip (flip b) = b := by unfold flip; split <;> (try split) <;> omega
theorem flip_inj {a b : Int} (h : flip a = flip b) : a = b := by rw [← flip_flip a, h, flip_flip]
theorem there_flip {N : Nat} {b n : Int} : There N (flip b) n ↔ There N b n := by unfold There flip; split <;> omega
theorem fB_flip {b : Int} (h : b = 0 ∨ b = 1) : fB (flip b) = flip (fB b) := by rcases h with rfl | rfl <;> rfl
theorem fN_flip {r b n : Int} (h : b = 0 ∨ b = 1) : fN (-r) (flip b) n = fN r b n := by
  rcases h with rfl | rfl
  · show n + -r = n - r; omega
  · show n - -r = n + r; omega
theorem put_flip (on : Int → Int → List Int) (b n : Int) (l : List Int) : (fun b' n' => put on b n l (flip b') n') = put (fun b' n' => on (flip b') n') (flip b) n l := by
  funext b' n'
  unfold put
  by_cases h : b' = flip b ∧ n' = n
  · rw [if_pos h, if_pos ⟨by rw [h.1, flip_flip], h.2⟩]
  · rw [if_neg h, if_neg fun e => h ⟨by rw [← e.1, flip_flip], e.2⟩]
theorem ln_turn (k : KS) (x : Sti) : (turnK k).ln (turnS x) = k.ln x := by unfold KS.ln turnK turnS; dsimp only; rw [flip_flip]
theorem lf_turn (k : KS) {x : Sti} (h : x.b = 0 ∨ x.b = 1) : (turnK k).lf (turnS x) = k.lf x := by unfold KS.lf turnK turnS; dsimp only; rw [fB_flip h, fN_flip h, flip_flip]
theorem wrong_turn (N : Nat) (k : KS) (x : Sti) : wrongK N (turnK k) (turnS x) = wrongK N k x := by
  unfold wrongK
  rw [ln_turn]
  have e1 : (turnS x).d = x.d := rfl
  have e2 : (turnS x).c = x.c := rfl
  have e3 : (turnS x).n = x.n := rfl
  have e4 : (turnS x).b = flip x.b := rfl
  have e5 : (turnK k).done = k.done := rfl
  have e6 : (turnK k).rack = -k.rack := rfl
  simp only [e1, e2, e3, e4, e5, e6, there_flip]
  by_cases h6 : x.d = 6
  · simp only [if_pos h6]
    have e7 : (turnS x).t = if x.d = 6 ∧ -4 ≤ x.t ∧ x.t ≤ 4 then -x.t else x.t := rfl
    by_cases ht : -4 ≤ x.t ∧ x.t ≤ 4
    · rw [if_pos ⟨h6, ht⟩] at e7
      rw [e7, if_neg (by omega : ¬ (-x.t < -4 ∨ 4 < -x.t)), if_neg (by omega : ¬ (x.t < -4 ∨ 4 < x.t))]
    · rw [if_neg (fun c => ht c.2)] at e7
      rw [e7]
  · by_cases ht : There N x.b x.n
    · simp only [if_neg h6, lf_turn k ht.1, fB_flip ht.1, fN_flip ht.1, there_flip]
    · simp only [if_pos ht, if_neg h6]
theorem step_turn {N : Nat} {k : KS} {x : Sti} (h : wrongK N k x = 0) : stepK (turnK k) (turnS x) = turnK (stepK k x) := by
  obtain ⟨w1, w2, w3, w4, w5, w6, w7, w8, w9⟩ := wrong_bounds h
  have e1 : (turnS x).d = x.d := rfl
  have e2 : (turnS x).c = x.c := rfl
  have e3 : (turnS x).n = x.n := rfl
  have e4 : (turnS x).b = flip x.b := rfl
  have e7 : (turnS x).t = if x.d = 6 ∧ -4 ≤ x.t ∧ x.t ≤ 4 then -x.t else x.t := rfl
  have eo : ∀ b n, (turnK k).on b n = k.on (flip b) n := fun _ _ => rfl
  unfold stepK
  rw [e1, e2, e3, e4, e7]
  by_cases h6 : x.d = 6
  · rw [if_pos h6, if_pos h6, if_pos ⟨h6, w4 h6⟩]; rfl
  have ht := w5 h6
  rw [if_neg h6, if_neg h6]
  by_cases h1 : x.d = 1
  · rw [if_pos h1, if_pos h1]
    unfold turnK
    dsimp only
    rw [flip_flip, put_flip]
  rw [if_neg h1, if_neg h1]
  by_cases h2 : x.d = 2
  · rw [if_pos h2, if_pos h2]
    unfold turnK
    dsimp only
    rw [flip_flip, put_flip]
  rw [if_neg h2, if_neg h2]
  by_cases h4 : x.d = 4
  · rw [if_pos h4, if_pos h4]
    unfold turnK
    dsimp only
    rw [flip_flip, put_flip, put_flip, fB_flip ht.1, fN_flip ht.1, flip_flip]
  rw [if_neg h4, if_neg h4]
  by_cases h5 : x.d = 5
  · rw [if_pos h5, if_pos h5]
    unfold turnK
    dsimp only
    rw [flip_flip, put_flip]
  rw [if_neg h5, if_neg h5]
  rfl
theorem do_turn (N : Nat) (k : KS) (x : Sti) : doK N (turnK k) (turnS x) = turnK (doK N k x) := by
  unfold doK
  rw [wrong_turn]
  split
  · exact step_turn (by assumption)
  · rfl
theorem fold_turn (N : Nat) : ∀ (l : List Sti) (k : KS), (l.map turnS).foldl (doK N) (turnK k) = turnK (l.foldl (doK N) k)
  | [], k => rfl
  | x :: l, k => by rw [List.map_cons, List.foldl_cons, do_turn, fold_turn N l, List.foldl_cons]
theorem errs_turn (N : Nat) : ∀ (l : List Sti) (k : KS), errsK N (turnK k) (l.map turnS) = errsK N k l
  | [], k => rfl
  | x :: l, k => by rw [List.map_cons, errsK, wrong_turn, do_turn, errs_turn N l, errsK]
theorem turn_zero : turnK zeroK = zeroK := rfl
theorem after_turn (N : Nat) (l : List Sti) : afterK N (l.map turnS) = turnK (afterK N l) := by
  unfold afterK; rw [← fold_turn, turn_zero]
theorem told_turn (N : Nat) (k : KS) : told N (turnK k) = ⟨(told N k).loops, (told N k).back, (told N k).front, (told N k).loose, -(told N k).rack⟩ := rfl

/-! ### without what was refused -/
def keptK (N : Nat) : KS → List Sti → List Sti
  | _, [] => []
  | k, x :: l => if wrongK N k x = 0 then x :: keptK N (doK N k x) l else keptK N (doK N k x) l
theorem kept_append (N : Nat) : ∀ (l m : List Sti) (k : KS), keptK N k (l ++ m) = keptK N k l ++ keptK N (l.foldl (doK N) k) m
  | [], m, k => rfl
  | x :: l, m, k => by
    rw [List.cons_append, keptK, keptK, kept_append N l, List.foldl_cons]
    split
    · rw [List.cons_append]
    · rfl
theorem kept_take {N : Nat} {l : List Sti} {i : Nat} (h : i < l.length) : keptK N zeroK (l.take (i + 1)) = keptK N zeroK (l.take i) ++ (if wrongK N (afterK N (l.take i)) l[i] = 0 then [l[i]] else []) := by
  rw [List.take_succ_eq_append_getElem h, kept_append]; rfl
theorem kept_fold (N : Nat) : ∀ (l : List Sti) (k : KS), (keptK N k l).foldl (doK N) k = l.foldl (doK N) k
  | [], k => rfl
  | x :: l, k => by
    rw [keptK, List.foldl_cons]
    by_cases h : wrongK N k x = 0
    · rw [if_pos h, List.foldl_cons, kept_fold N l]
    · rw [if_neg h]
      have e : doK N k x = k := by unfold doK; rw [if_neg h]
      rw [e, kept_fold N l]
theorem kept_errs (N : Nat) : ∀ (l : List Sti) (k : KS), ∀ e ∈ errsK N k (keptK N k l), e = 0
  | [], k => fun e h => by cases h
  | x :: l, k => by
    rw [keptK]
    by_cases h : wrongK N k x = 0
    · rw [if_pos h, errsK]
      intro e he
      rcases List.mem_cons.1 he with h1 | h1
      · rw [h1, h]
      · exact kept_errs N l _ e h1
    · rw [if_neg h]
      have e : doK N k x = k := by unfold doK; rw [if_neg h]
      rw [e]
      exact kept_errs N l _
theorem kept_len (N : Nat) : ∀ (l : List Sti) (k : KS), (keptK N k l).length ≤ l.length
  | [], k => Nat.le_refl _
  | x :: l, k => by
    rw [keptK]
    have := kept_len N l (doK N k x)
    split
    · rw [List.length_cons, List.length_cons]; omega
    · rw [List.length_cons]; omega

/-! ### no loop is lost -/
def sumTo (f : Nat → Nat) : Nat → Nat
  | 0 => 0
  | n + 1 => sumTo f n + f n
theorem sumTo_congr {f g : Nat → Nat} : ∀ n, (∀ i, i < n → f i = g i) → sumTo f n = sumTo g n
  | 0, _ => rfl
  | n + 1, h => by rw [sumTo, sumTo, sumTo_congr n (fun i hi => h i (by omega)), h n (by omega)]
theorem sumTo_set {f g : Nat → Nat} {j : Nat} : ∀ n, j < n → (∀ i, i ≠ j → f i = g i) → sumTo f n + g j = sumTo g n + f j
  | 0, h, _ => by omega
  | n + 1, h, hne => by
    rw [sumTo, sumTo]
    rcases Nat.lt_or_eq_of_le (Nat.le_of_lt_succ h) with h1 | rfl
    · have := sumTo_set n h1 hne
      have := hne n (by omega)
      omega
    · rw [sumTo_congr j (fun i hi => hne i (by omega))]; omega
theorem sumTo_zero {f : Nat → Nat} : ∀ n, (∀ i, i < n → f i = 0) → sumTo f n = 0
  | 0, _ => rfl
  | n + 1, h => by rw [sumTo, sumTo_zero n (fun i hi => h i (by omega)), h n (by omega)]
/-- how often x is held on a bed -/
def cntB (on : Int → Int → List Int) (b : Int) (x : Int) (N : Nat) : Nat := sumTo (fun n : Nat => (on b (n : Int)).count x) N
def cntL (ls : List Lop) (x : Int) : Nat := (ls.flatMap fun l => l.thr).count x
def cntK (N : Nat) (k : KS) (x : Int) : Nat := cntB k.on 0 x N + cntB k.on 1 x N + k.loose.count x + cntL k.loops x
theorem cntB_put {on : Int → Int → List Int} {b n : Int} {l : List Int} {x : Int} {N : Nat} (h : There N b n) (b' : Int) :
    cntB (put on b n l) b' x N + (if b' = b then (on b n).count x else 0) = cntB on b' x N + (if b' = b then l.count x else 0) := by
  unfold cntB
  by_cases hb : b' = b
  · subst hb
    rw [if_pos rfl, if_pos rfl]
    obtain ⟨j, hj⟩ : ∃ j : Nat, (j : Int) = n := ⟨n.toNat, Int.toNat_of_nonneg h.2.1⟩
    subst hj
    have := sumTo_set (f := fun n : Nat => (put on b' (j : Int) l b' (n : Int)).count x) (g := fun n : Nat => (on b' (n : Int)).count x) (j := j) N (by have := h.2.2; omega) (fun i hi => by
      rw [put_ne]
      intro e; exact hi (by omega))
    rw [put_same] at this
    omega
  · rw [if_neg hb, if_neg hb]
    exact congrArg (· + 0) (sumTo_congr N fun i _ => by rw [put_ne]; exact fun e => hb e.1)
theorem cnt_put {on : Int → Int → List Int} {b n : Int} {l : List Int} {x : Int} {N : Nat} (h : There N b n) :
    cntB (put on b n l) 0 x N + cntB (put on b n l) 1 x N + (on b n).count x = cntB on 0 x N + cntB on 1 x N + l.count x := by
  have h0 := cntB_put (on := on) (l := l) (x := x) h 0
  have h1 := cntB_put (on := on) (l := l) (x := x) h 1
  rcases h.1 with e | e
  · subst e
    rw [if_pos rfl, if_pos rfl] at h0
    rw [if_neg (by decide), if_neg (by decide)] at h1
    omega
  · subst e
    rw [if_pos rfl, if_pos rfl] at h1
    rw [if_neg (by decide), if_neg (by decide)] at h0
    omega
theorem cntL_snoc (ls : List Lop) (l : Lop) (x : Int) : cntL (ls ++ [l]) x = cntL ls x + l.thr.count x := by unfold cntL; rw [List.flatMap_append, List.count_append]; simp
/-- each loop is at one place -/
structure Once (N : Nat) (k : KS) : Prop where
  one : ∀ x : Int, cntK N k x = if 0 ≤ x ∧ x < (k.loops.length : Int) then 1 else 0
  back : ∀ i (h : i < k.loops.length), ∀ y ∈ k.loops[i].thr, 0 ≤ y ∧ y < (i : Int)
theorem once_zero (N : Nat) : Once N zeroK := by
  refine ⟨fun x => ?_, fun i h => by simp [zeroK] at h⟩
  have e : ∀ b, cntB zeroK.on b x N = 0 := fun b => sumTo_zero N fun i _ => rfl
  unfold cntK
  rw [e, e]
  have e2 : ((zeroK.loops.length : Nat) : Int) = 0 := rfl
  rw [e2, if_neg (by omega)]
  rfl
theorem Once.mem {N : Nat} {k : KS} (h : Once N k) {b n : Int} (ht : There N b n) {y : Int} (hy : y ∈ k.on b n) : 0 ≤ y ∧ y < (k.loops.length : Int) := by
  have h1 := h.one y
  by_cases c : 0 ≤ y ∧ y < (k.loops.length : Int)
  · exact c
  · rw [if_neg c] at h1
    have h2 := cnt_put (on := k.on) (l := []) (x := y) ht
    have h3 : 0 < (k.on b n).count y := List.count_pos_iff.2 hy
    unfold cntK at h1
    rw [List.count_nil] at h2
    omega
theorem once_step {N : Nat} {k : KS} {x : Sti} (ho : Once N k) (h : wrongK N k x = 0) : Once N (stepK k x) := by
  obtain ⟨w1, w2, w3, w4, w5, w6, w7, w8, w9⟩ := wrong_bounds h
  have hsame : ∀ (on : Int → Int → List Int) (lo : List Int) (r : Int) (d : Nat), (∀ y, cntB on 0 y N + cntB on 1 y N + lo.count y = cntB k.on 0 y N + cntB k.on 1 y N + k.loose.count y) → Once N ⟨k.loops, on, lo, r, d⟩ := fun on lo r d he => by
    refine ⟨fun y => ?_, ho.back⟩
    have := ho.one y
    have := he y
    unfold cntK at *
    dsimp only
    omega
  have hmore : ∀ (on : Int → Int → List Int) (d : Nat) (t : List Int), (∀ y ∈ t, 0 ≤ y ∧ y < (k.loops.length : Int)) → (∀ y, cntB on 0 y N + cntB on 1 y N + t.count y = cntB k.on 0 y N + cntB k.on 1 y N + if y = (k.loops.length : Int) then 1 else 0) → Once N ⟨k.loops ++ [⟨x.c, t⟩], on, k.loose, k.rack, d⟩ := fun on d t ht he => by
    refine ⟨fun y => ?_, fun i hi => ?_⟩
    · have h1 := ho.one y
      have h2 := he y
      unfold cntK at *
      dsimp only
      rw [cntL_snoc, List.length_append, List.length_singleton]
      dsimp only
      split at h2 <;> split at h1 <;> split <;> omega
    · dsimp only at hi ⊢
      rw [List.length_append, List.length_singleton] at hi
      by_cases c : i < k.loops.length
      · rw [List.getElem_append_left c]; exact ho.back i c
      · obtain rfl : i = k.loops.length := by omega
        rw [List.getElem_append_right (by omega)]
        simpa using ht
  unfold stepK
  split
  · exact hsame _ _ _ _ fun y => rfl
  next h6 =>
  have ht := w5 h6
  split
  · refine hmore _ _ _ (fun y hy => ho.mem ht hy) fun y => ?_
    have := cnt_put (on := k.on) (l := [(k.loops.length : Int)]) (x := y) ht
    rw [List.count_singleton] at this
    by_cases c : y = (k.loops.length : Int)
    · subst c; simp at this ⊢; omega
    · have c2 : ((k.loops.length : Int) == y) = false := by simp; omega
      rw [c2] at this
      rw [if_neg c]
      simp at this
      omega
  split
  · refine hmore _ _ _ (fun y hy => by cases hy) fun y => ?_
    have := cnt_put (on := k.on) (l := k.on x.b x.n ++ [(k.loops.length : Int)]) (x := y) ht
    rw [List.count_append, List.count_singleton] at this
    by_cases c : y = (k.loops.length : Int)
    · subst c; simp at this ⊢; omega
    · have c2 : ((k.loops.length : Int) == y) = false := by simp; omega
      rw [c2] at this
      rw [if_neg c]
      simp at this ⊢
      omega
  split
  · refine hsame _ _ _ _ fun y => ?_
    have hf := (w7 (by assumption)).1
    have h1 := cnt_put (on := k.on) (l := k.on (fB x.b) (fN k.rack x.b x.n) ++ k.on x.b x.n) (x := y) hf
    have h2 := cnt_put (on := put k.on (fB x.b) (fN k.rack x.b x.n) (k.on (fB x.b) (fN k.rack x.b x.n) ++ k.on x.b x.n)) (l := []) (x := y) ht
    rw [put_ne _ _ (fun e => fB_ne ht.1 e.1.symm), List.count_nil] at h2
    rw [List.count_append] at h1
    omega
  split
  · refine hsame _ _ _ _ fun y => ?_
    have h2 := cnt_put (on := k.on) (l := []) (x := y) ht
    rw [List.count_nil] at h2
    rw [List.count_append]
    omega
  · exact hsame _ _ _ _ fun y => rfl
theorem once_fold {N : Nat} : ∀ (l : List Sti) (k : KS), Once N k → Once N (l.foldl (doK N) k)
  | [], k, h => h
  | x :: l, k, h => by
    refine once_fold l _ ?_
    unfold doK; split
    · exact once_step h (by assumption)
    · exact h
theorem once_after (N : Nat) (l : List Sti) : Once N (afterK N l) := once_fold l _ (once_zero N)
theorem count_front (on : Int → Int → List Int) (b x : Int) : ∀ N : Nat, (((List.range N).map fun n : Nat => on b (n : Int)).flatMap id).count x = cntB on b x N
  | 0 => rfl
  | n + 1 => by
    rw [List.range_succ, List.map_append, List.flatMap_append, List.count_append, count_front on b x n]
    unfold cntB
    rw [sumTo]
    simp
/-- all that is told, one behind the other -/
def allOf (k : Kn) : List Int := k.front.flatMap id ++ k.back.flatMap id ++ k.loose ++ k.loops.flatMap fun l => l.thr
theorem count_all (N : Nat) (k : KS) (x : Int) : (allOf (told N k)).count x = cntK N k x := by
  unfold allOf told cntK cntL
  dsimp only
  rw [List.count_append, List.count_append, List.count_append, count_front, count_front]
end Go.Proofs.Ytaacfjeddoekfaa
