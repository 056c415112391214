/- Chapter 11, plain: a knitting machine with two beds of needles. -/
import Derived.Test.YtaacfjeddoekfaaLib2
namespace Go.Proofs.Ytaacfjeddoekfaa
set_option linter.unusedVariables false

/-- a stitch -/
structure Sti where
  d : Int
  b : Int
  n : Int
  c : Int
  t : Int
def Sti.cells (s : Sti) : List Value := [.int .i64 s.d, .int .i64 s.b, .int .i64 s.n, .int .i64 s.c, .int .i64 s.t]
theorem Sti.cells_len (s : Sti) : s.cells.length = 5 := rfl
/-- a loop -/
structure Lop where
  car : Int
  thr : List Int
/-- a machine -/
structure KS where
  loops : List Lop
  on : Int → Int → List Int
  loose : List Int
  rack : Int
  done : Nat
def zeroK : KS := ⟨[], fun _ _ => [], [], 0, 0⟩
/-- the needle that faces one -/
def fB (b : Int) : Int := if b = 0 then 1 else 0
def fN (r b n : Int) : Int := if b = 0 then n - r else n + r
def There (N : Nat) (b n : Int) : Prop := (b = 0 ∨ b = 1) ∧ 0 ≤ n ∧ n < (N : Int)
instance (N : Nat) (b n : Int) : Decidable (There N b n) := by unfold There; infer_instance
def KS.ln (k : KS) (x : Sti) : Nat := (k.on x.b x.n).length
def KS.lf (k : KS) (x : Sti) : Nat := (k.on (fB x.b) (fN k.rack x.b x.n)).length
def wrongK (N : Nat) (k : KS) (x : Sti) : Int :=
  if x.d < 1 ∨ 6 < x.d then 1 else
  if 4096 ≤ k.done then 4 else
  if x.d = 6 then (if x.t < -4 ∨ 4 < x.t then 3 else 0) else
  if ¬ There N x.b x.n then 3 else
  if x.d ≤ 3 ∧ (x.c < 0 ∨ 7 < x.c) then 3 else
  if x.d = 4 ∧ ¬ There N (fB x.b) (fN k.rack x.b x.n) then 3 else
  if x.d = 3 then 0 else
  if x.d = 2 then (if 8 ≤ k.ln x then 5 else 0) else
  if k.ln x = 0 then 6 else
  if x.d = 4 ∧ 8 < k.ln x + k.lf x then 5 else 0
/-- a needle holds l now -/
def put (on : Int → Int → List Int) (b n : Int) (l : List Int) : Int → Int → List Int := fun b' n' => if b' = b ∧ n' = n then l else on b' n'
theorem put_same (on : Int → Int → List Int) (b n : Int) (l : List Int) : put on b n l b n = l := by unfold put; rw [if_pos ⟨rfl, rfl⟩]
theorem put_ne (on : Int → Int → List Int) {b n b' n' : Int} (l : List Int) (h : ¬ (b' = b ∧ n' = n)) : put on b n l b' n' = on b' n' := by unfold put; rw [if_neg h]
def stepK (k : KS) (x : Sti) : KS :=
  if x.d = 6 then { k with rack := x.t, done := k.done + 1 } else
  if x.d = 1 then { k with loops := k.loops ++ [⟨x.c, k.on x.b x.n⟩], on := put k.on x.b x.n [(k.loops.length : Int)], done := k.done + 1 } else
  if x.d = 2 then { k with loops := k.loops ++ [⟨x.c, []⟩], on := put k.on x.b x.n (k.on x.b x.n ++ [(k.loops.length : Int)]), done := k.done + 1 } else
  if x.d = 4 then { k with on := put (put k.on (fB x.b) (fN k.rack x.b x.n) (k.on (fB x.b) (fN k.rack x.b x.n) ++ k.on x.b x.n)) x.b x.n [], done := k.done + 1 } else
  if x.d = 5 then { k with loose := k.loose ++ k.on x.b x.n, on := put k.on x.b x.n [], done := k.done + 1 } else
  { k with done := k.done + 1 }
def doK (N : Nat) (k : KS) (x : Sti) : KS := if wrongK N k x = 0 then stepK k x else k
def afterK (N : Nat) (l : List Sti) : KS := l.foldl (doK N) zeroK
/-- what is told of each stitch -/
def errsK (N : Nat) : KS → List Sti → List Int
  | _, [] => []
  | k, x :: l => wrongK N k x :: errsK N (doK N k x) l
theorem errsK_len (N : Nat) : ∀ (l : List Sti) (k : KS), (errsK N k l).length = l.length
  | [], _ => rfl
  | x :: l, k => by rw [errsK, List.length_cons, errsK_len N l, List.length_cons]
theorem errsK_append (N : Nat) : ∀ (l m : List Sti) (k : KS), errsK N k (l ++ m) = errsK N k l ++ errsK N (l.foldl (doK N) k) m
  | [], m, k => rfl
  | x :: l, m, k => by rw [List.cons_append, errsK, errsK, errsK_append N l, List.cons_append, List.foldl_cons]
theorem afterK_snoc (N : Nat) (l : List Sti) (x : Sti) : afterK N (l ++ [x]) = doK N (afterK N l) x := by unfold afterK; rw [List.foldl_append]; rfl
theorem afterK_take {N : Nat} {l : List Sti} {i : Nat} (h : i < l.length) : afterK N (l.take (i + 1)) = doK N (afterK N (l.take i)) l[i] := by rw [List.take_succ_eq_append_getElem h, afterK_snoc]
theorem errsK_take {N : Nat} {l : List Sti} {i : Nat} (h : i < l.length) : errsK N zeroK (l.take (i + 1)) = errsK N zeroK (l.take i) ++ [wrongK N (afterK N (l.take i)) l[i]] := by
  rw [List.take_succ_eq_append_getElem h, errsK_append]; rfl

theorem fB_cases (b : Int) : fB b = 0 ∨ fB b = 1 := by unfold fB; split <;> omega
theorem fB_ne {b : Int} (h : b = 0 ∨ b = 1) : fB b ≠ b := by unfold fB; split <;> omega

/-- what always stands -/
structure Kinv (N : Nat) (k : KS) : Prop where
  r : -4 ≤ k.rack ∧ k.rack ≤ 4
  d : k.done ≤ 4096
  on : ∀ b n, (k.on b n).length ≤ 8
  off : ∀ b n, ¬ There N b n → k.on b n = []
  loops : k.loops.length ≤ k.done
  loose : k.loose.length ≤ 8 * k.done
  thr : ∀ l ∈ k.loops, l.thr.length ≤ 8
  car : ∀ l ∈ k.loops, 0 ≤ l.car ∧ l.car ≤ 7
theorem kinv_zero (N : Nat) : Kinv N zeroK := ⟨by decide, by decide, fun _ _ => by simp [zeroK], fun _ _ _ => rfl, Nat.le_refl _, by decide, fun l h => by simp [zeroK] at h, fun l h => by simp [zeroK] at h⟩
theorem wrong_bounds {N : Nat} {k : KS} {x : Sti} (h : wrongK N k x = 0) : 1 ≤ x.d ∧ x.d ≤ 6 ∧ k.done < 4096 ∧ (x.d = 6 → -4 ≤ x.t ∧ x.t ≤ 4) ∧ (x.d ≠ 6 → There N x.b x.n) ∧ (x.d ≤ 3 → 0 ≤ x.c ∧ x.c ≤ 7) ∧
    (x.d = 4 → There N (fB x.b) (fN k.rack x.b x.n) ∧ k.ln x + k.lf x ≤ 8) ∧ (x.d = 2 → k.ln x < 8) ∧ (x.d = 1 ∨ x.d = 4 ∨ x.d = 5 → 0 < k.ln x) := by
  unfold wrongK at h
  split at h
  · omega
  split at h
  · omega
  split at h
  · split at h
    · omega
    · refine ⟨by omega, by omega, by omega, fun _ => by omega, fun e => by omega, fun e => by omega, fun e => by omega, fun e => by omega, fun e => by omega⟩
  next h6 =>
  split at h
  · omega
  next ht =>
  have ht : There N x.b x.n := Decidable.of_not_not ht
  split at h
  · omega
  split at h
  · omega
  next h4 =>
  have h4 : x.d = 4 → There N (fB x.b) (fN k.rack x.b x.n) := fun e => Decidable.of_not_not fun c => h4 ⟨e, c⟩
  split at h
  · refine ⟨by omega, by omega, by omega, fun _ => by omega, fun e => ht, fun e => by omega, fun e => by omega, fun e => by omega, fun e => by omega⟩
  split at h
  · split at h
    · omega
    · refine ⟨by omega, by omega, by omega, fun _ => by omega, fun e => ht, fun e => by omega, fun e => by omega, fun e => by omega, fun e => by omega⟩
  split at h
  · omega
  split at h
  · omega
  · refine ⟨by omega, by omega, by omega, fun _ => by omega, fun e => ht, fun e => by omega, fun e => ⟨h4 e, by omega⟩, fun e => by omega, fun e => by omega⟩
theorem put_len {on : Int → Int → List Int} {b n : Int} {l : List Int} {m : Nat} (h : ∀ b n, (on b n).length ≤ m) (hl : l.length ≤ m) (b' n' : Int) : (put on b n l b' n').length ≤ m := by
  unfold put; split
  · exact hl
  · exact h _ _
theorem put_off {N : Nat} {on : Int → Int → List Int} {b n : Int} {l : List Int} (h : ∀ b n, ¬ There N b n → on b n = []) (hl : There N b n) (b' n' : Int) (hn : ¬ There N b' n') : put on b n l b' n' = [] := by
  unfold put; split
  · next e => exact absurd (by rw [e.1, e.2]; exact hl) hn
  · exact h _ _ hn
theorem kinv_step {N : Nat} {k : KS} {x : Sti} (hi : Kinv N k) (h : wrongK N k x = 0) : Kinv N (stepK k x) := by
  obtain ⟨w1, w2, w3, w4, w5, w6, w7, w8, w9⟩ := wrong_bounds h
  obtain ⟨i1, i2, i3, i4, i5, i6, i7, i8⟩ := hi
  have hon := i3 x.b x.n
  unfold stepK
  split
  · exact ⟨w4 (by assumption), by dsimp only; omega, i3, i4, by dsimp only; omega, by dsimp only; omega, i7, i8⟩
  next h6 =>
  have ht := w5 h6
  split
  · refine ⟨i1, by dsimp only; omega, put_len i3 (by simp), put_off i4 ht, by simp; omega, by dsimp only; omega, fun l hl => ?_, fun l hl => ?_⟩
    all_goals
      dsimp only at hl
      rcases List.mem_append.1 hl with h1 | h1
      · first | exact i7 l h1 | exact i8 l h1
      · rw [List.mem_singleton] at h1
        subst h1
        first | exact i3 _ _ | exact w6 (by omega)
  split
  · have := w8 (by assumption)
    unfold KS.ln at this
    refine ⟨i1, by dsimp only; omega, put_len i3 (by simp; omega), put_off i4 ht, by simp; omega, by dsimp only; omega, fun l hl => ?_, fun l hl => ?_⟩
    all_goals
      dsimp only at hl
      rcases List.mem_append.1 hl with h1 | h1
      · first | exact i7 l h1 | exact i8 l h1
      · rw [List.mem_singleton] at h1
        subst h1
        first | exact Nat.zero_le _ | exact w6 (by omega)
  split
  · have := w7 (by assumption)
    unfold KS.ln KS.lf at this
    exact ⟨i1, by dsimp only; omega, put_len (put_len i3 (by simp; omega)) (by simp), put_off (put_off i4 this.1) ht, by dsimp only; omega, by dsimp only; omega, i7, i8⟩
  split
  · exact ⟨i1, by dsimp only; omega, put_len i3 (by simp), put_off i4 ht, by dsimp only; omega, by simp; omega, i7, i8⟩
  · exact ⟨i1, by dsimp only; omega, i3, i4, by dsimp only; omega, by dsimp only; omega, i7, i8⟩
theorem kinv_do {N : Nat} {k : KS} {x : Sti} (hi : Kinv N k) : Kinv N (doK N k x) := by
  unfold doK; split
  · exact kinv_step hi (by assumption)
  · exact hi
theorem kinv_fold {N : Nat} : ∀ (l : List Sti) (k : KS), Kinv N k → Kinv N (l.foldl (doK N) k)
  | [], k, h => h
  | x :: l, k, h => kinv_fold l _ (kinv_do h)
theorem kinv_after (N : Nat) (l : List Sti) : Kinv N (afterK N l) := kinv_fold l _ (kinv_zero N)

/-- what is told of a machine -/
structure Kn where
  loops : List Lop
  front : List (List Int)
  back : List (List Int)
  loose : List Int
  rack : Int
def told (N : Nat) (k : KS) : Kn := ⟨k.loops, (List.range N).map fun n : Nat => k.on 0 (n : Int), (List.range N).map fun n : Nat => k.on 1 (n : Int), k.loose, k.rack⟩
def noKn : Kn := ⟨[], [], [], [], 0⟩

/-- the first stitch that is wrong -/
def firstBad : List Int → Option (Int × Nat)
  | [] => none
  | e :: l => if e ≠ 0 then some (e, 0) else (firstBad l).map fun p => (p.1, p.2 + 1)
theorem firstBad_none : ∀ {l : List Int}, (∀ e ∈ l, e = 0) → firstBad l = none
  | [], _ => rfl
  | e :: l, h => by rw [firstBad, if_neg (fun c => c (h e (by simp))), firstBad_none fun x hx => h x (by simp [hx])]; rfl
theorem firstBad_some : ∀ {l : List Int} {i : Nat} (hi : i < l.length), (∀ j (hj : j < i), l[j] = 0) → l[i] ≠ 0 → firstBad l = some (l[i], i)
  | [], i, hi, _, _ => by simp at hi
  | e :: l, 0, hi, h, hn => by rw [firstBad, if_pos (by exact hn)]; rfl
  | e :: l, i + 1, hi, h, hn => by
    rw [firstBad, if_neg (fun c => c (h 0 (by omega))), firstBad_some (i := i) (by simpa using hi) (fun j hj => h (j + 1) (by omega)) hn]; rfl
theorem errsK_get {N : Nat} {l : List Sti} {i : Nat} (h : i < l.length) : (errsK N zeroK l)[i]? = some (wrongK N (afterK N (l.take i)) l[i]) := by
  have e : l = l.take i ++ l.drop i := (List.take_append_drop i l).symm
  have e2 : errsK N zeroK l = errsK N zeroK (l.take i) ++ errsK N (afterK N (l.take i)) (l.drop i) := by
    rw [afterK, ← errsK_append, ← e]
  rw [e2, List.getElem?_append_right (by rw [errsK_len, List.length_take]; omega), errsK_len, List.length_take, Nat.min_eq_left (by omega), Nat.sub_self, List.drop_eq_getElem_cons h, errsK]
  rfl
/-- no stitch of the first i is wrong -/
def Fine (N : Nat) (l : List Sti) (i : Nat) : Prop := ∀ j (hj : j < l.length), j < i → wrongK N (afterK N (l.take j)) l[j] = 0
theorem Fine.bad {N : Nat} {l : List Sti} {i : Nat} (h : Fine N l i) (hi : i < l.length) (hn : wrongK N (afterK N (l.take i)) l[i] ≠ 0) : firstBad (errsK N zeroK l) = some (wrongK N (afterK N (l.take i)) l[i], i) := by
  have hl : i < (errsK N zeroK l).length := by rw [errsK_len]; exact hi
  have e : ∀ j (hj : j < l.length) (hj2 : j < (errsK N zeroK l).length), (errsK N zeroK l)[j] = wrongK N (afterK N (l.take j)) l[j] := fun j hj hj2 => by
    have := errsK_get (N := N) hj
    rw [List.getElem?_eq_getElem hj2] at this
    exact Option.some.inj this
  rw [firstBad_some hl (fun j hj => by rw [e j (by omega)]; exact h j (by omega) hj) (by rw [e i hi]; exact hn), e i hi]
theorem Fine.none {N : Nat} {l : List Sti} (h : Fine N l l.length) : firstBad (errsK N zeroK l) = none := by
  refine firstBad_none fun x hx => ?_
  obtain ⟨j, hj, rfl⟩ := List.mem_iff_getElem.1 hx
  have hj' : j < l.length := by rw [errsK_len] at hj; exact hj
  have := errsK_get (N := N) hj'
  rw [List.getElem?_eq_getElem hj] at this
  rw [Option.some.inj this]
  exact h j hj' hj'
theorem Fine.next {N : Nat} {l : List Sti} {i : Nat} (h : Fine N l i) (hi : i < l.length) (hn : wrongK N (afterK N (l.take i)) l[i] = 0) : Fine N l (i + 1) := by
  intro j hj hji
  rcases Nat.lt_or_eq_of_le (Nat.le_of_lt_succ hji) with h1 | rfl
  · exact h j hj h1
  · exact hn
/-- what Run answers -/
def runF (N : Nat) (l : List Sti) : Int × Int := match firstBad (errsK N zeroK l) with | none => (0, 0) | some (e, i) => (e, (i : Int))
def runK (N : Nat) (l : List Sti) : Kn := match firstBad (errsK N zeroK l) with | none => told N (afterK N l) | some _ => noKn
end Go.Proofs.Ytaacfjeddoekfaa
