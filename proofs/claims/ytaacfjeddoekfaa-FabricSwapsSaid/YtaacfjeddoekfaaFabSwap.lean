/- Chapter 12, plain: what has nothing to do with one another may come in either order. -/
import Derived.Test.YtaacfjeddoekfaaFabTidy
namespace Go.Proofs.Ytaacfjeddoekfaa
set_option linter.unusedVariables false
set_option linter.unusedSimpArgs false

/-- the needles that a stitch has to do with -/
def touchK (x : Sti) (r : Int) : List (Int × Int) := if x.d = 3 then [] else if x.d = 4 then [(x.b, x.n), (fB x.b, fN r x.b x.n)] else [(x.b, x.n)]
def mayK (x y : Sti) (r : Int) : Prop := x.d ≠ 6 ∧ y.d ≠ 6 ∧ ¬ (yarnK x = true ∧ yarnK y = true ∧ x.c = y.c) ∧ ∀ a ∈ touchK x r, a ∉ touchK y r
/-- loops bear other numbers -/
def rn (π : Nat → Nat) (x : Int) : Int := (π x.toNat : Int)
structure SimK (π : Nat → Nat) (k k' : KS) : Prop where
  ππ : ∀ i, π (π i) = i
  hi : ∀ i, k.loops.length ≤ i → π i = i
  len : k'.loops.length = k.loops.length
  car : ∀ i, i < k.loops.length → (k'.loops.getD (π i) noLop).car = (k.loops.getD i noLop).car
  thr : ∀ i, i < k.loops.length → (k'.loops.getD (π i) noLop).thr = (k.loops.getD i noLop).thr.map (rn π)
  ord : ∀ i j, i < k.loops.length → j < k.loops.length → (k.loops.getD i noLop).car = (k.loops.getD j noLop).car → (i < j ↔ π i < π j)
  on : ∀ b n, k'.on b n = (k.on b n).map (rn π)
  loose : k'.loose.Perm (k.loose.map (rn π))
  rack : k'.rack = k.rack
  done : k'.done = k.done
theorem SimK.lt {π : Nat → Nat} {k k' : KS} (h : SimK π k k') {i : Nat} (hi : i < k.loops.length) : π i < k.loops.length := by
  refine Nat.lt_of_not_le fun c => ?_
  have h1 := h.hi _ c
  rw [h.ππ] at h1
  omega
theorem getD_left {l m : List Lop} {i : Nat} (h : i < l.length) : (l ++ m).getD i noLop = l.getD i noLop := by
  rw [List.getD_eq_getElem?_getD, List.getD_eq_getElem?_getD, List.getElem?_append_left h]
theorem getD_at {l m : List Lop} {i : Nat} (h : i = l.length) {x : Lop} : (l ++ x :: m).getD i noLop = x := by
  subst h
  rw [List.getD_eq_getElem?_getD, List.getElem?_append_right (Nat.le_refl _), Nat.sub_self]; rfl
theorem getD_next {l m : List Lop} {i : Nat} (h : i = l.length + 1) {x y : Lop} : (l ++ x :: y :: m).getD i noLop = y := by
  subst h
  rw [List.getD_eq_getElem?_getD, List.getElem?_append_right (by omega), show l.length + 1 - l.length = 1 by omega]; rfl
theorem put_rn {π : Nat → Nat} {on on' : Int → Int → List Int} (h : ∀ b n, on' b n = (on b n).map (rn π)) (b n : Int) {l l' : List Int} (hl : l' = l.map (rn π)) (b' n' : Int) : put on' b n l' b' n' = (put on b n l b' n').map (rn π) := by
  unfold put
  split
  · exact hl
  · exact h _ _
theorem SimK.more {π : Nat → Nat} {k k' : KS} (h : SimK π k k') (c : Int) {t t' : List Int} (ht : t' = t.map (rn π)) {on on' : Int → Int → List Int} (ho : ∀ b n, on' b n = (on b n).map (rn π)) :
    SimK π { k with loops := k.loops ++ [⟨c, t⟩], on := on, done := k.done + 1 } { k' with loops := k'.loops ++ [⟨c, t'⟩], on := on', done := k'.done + 1 } := by
  have hL : (k.loops ++ [(⟨c, t⟩ : Lop)]).length = k.loops.length + 1 := by simp
  have hpl : π k.loops.length = k.loops.length := h.hi _ (Nat.le_refl _)
  refine ⟨h.ππ, fun i hi => h.hi i (by dsimp only at hi; omega), by simp [h.len], fun i hi => ?_, fun i hi => ?_, fun i j hi hj hc => ?_, ho, h.loose, h.rack, by dsimp only; rw [h.done]⟩
  · dsimp only at hi ⊢
    rcases Nat.lt_or_ge i k.loops.length with c1 | c1
    · rw [getD_left c1, getD_left (by rw [h.len]; exact h.lt c1)]; exact h.car i c1
    · have e : i = k.loops.length := by omega
      rw [getD_at e, getD_at (by rw [e, hpl, h.len])]
  · dsimp only at hi ⊢
    rcases Nat.lt_or_ge i k.loops.length with c1 | c1
    · rw [getD_left c1, getD_left (by rw [h.len]; exact h.lt c1)]; exact h.thr i c1
    · have e : i = k.loops.length := by omega
      rw [getD_at e, getD_at (by rw [e, hpl, h.len])]; exact ht
  · dsimp only at hi hj hc
    rcases Nat.lt_or_ge i k.loops.length with c1 | c1
    · rcases Nat.lt_or_ge j k.loops.length with c2 | c2
      · rw [getD_left c1, getD_left c2] at hc; exact h.ord i j c1 c2 hc
      · have e : j = k.loops.length := by omega
        have := h.lt c1
        rw [e, hpl]; omega
    · have e : i = k.loops.length := by omega
      rcases Nat.lt_or_ge j k.loops.length with c2 | c2
      · have := h.lt c2
        rw [e, hpl]; omega
      · have e2 : j = k.loops.length := by omega
        rw [e, e2]; omega
theorem wrong_sim {π : Nat → Nat} {N : Nat} {k k' : KS} (h : SimK π k k') (x : Sti) : wrongK N k' x = wrongK N k x := by
  have e1 : k'.ln x = k.ln x := by unfold KS.ln; rw [h.on, List.length_map]
  have e2 : k'.lf x = k.lf x := by unfold KS.lf; rw [h.on, h.rack, List.length_map]
  unfold wrongK
  rw [e1, e2, h.done, h.rack]
theorem step_sim {π : Nat → Nat} {k k' : KS} (h : SimK π k k') (x : Sti) : SimK π (stepK k x) (stepK k' x) := by
  have hn : [(k'.loops.length : Int)] = [(k.loops.length : Int)].map (rn π) := by
    show _ = [rn π _]
    unfold rn
    rw [Int.toNat_natCast, h.hi _ (Nat.le_refl _), h.len]
  unfold stepK
  split
  · exact ⟨h.ππ, h.hi, h.len, h.car, h.thr, h.ord, h.on, h.loose, rfl, by dsimp only; rw [h.done]⟩
  split
  · exact h.more x.c (h.on _ _) (put_rn h.on _ _ hn)
  split
  · exact h.more x.c (by rfl) (put_rn h.on _ _ (by rw [h.on, List.map_append, hn]))
  split
  · exact ⟨h.ππ, h.hi, h.len, h.car, h.thr, h.ord, put_rn (by rw [h.rack]; exact put_rn h.on _ _ (by rw [h.on, h.on, List.map_append])) _ _ rfl, h.loose, h.rack, by dsimp only; rw [h.done]⟩
  split
  · exact ⟨h.ππ, h.hi, h.len, h.car, h.thr, h.ord, put_rn h.on _ _ rfl, by dsimp only; rw [h.on, List.map_append]; exact h.loose.append_right _, h.rack, by dsimp only; rw [h.done]⟩
  · exact ⟨h.ππ, h.hi, h.len, h.car, h.thr, h.ord, h.on, h.loose, h.rack, by dsimp only; rw [h.done]⟩
theorem run_sim {π : Nat → Nat} {N : Nat} : ∀ (l : List Sti) (k k' : KS), SimK π k k' → errsK N k' l = errsK N k l ∧ SimK π (l.foldl (doK N) k) (l.foldl (doK N) k')
  | [], k, k', h => ⟨rfl, h⟩
  | x :: l, k, k', h => by
    have hw := wrong_sim (N := N) h x
    have hd : SimK π (doK N k x) (doK N k' x) := by
      unfold doK
      rw [hw]
      split
      · exact step_sim h x
      · exact h
    have := run_sim (N := N) l _ _ hd
    rw [errsK, errsK, hw, this.1, List.foldl_cons, List.foldl_cons]
    exact ⟨rfl, this.2⟩
theorem ren_of_sim {π : Nat → Nat} {N : Nat} {k k' : KS} (h : SimK π k k') : Ren π k.loops.length (told N k) (told N k') := by
  refine ⟨h.ππ, fun i hi => h.lt hi, rfl, h.len, h.car, h.thr, h.ord, ?_, ?_, h.loose, h.rack⟩
  · show List.map _ _ = List.map _ (List.map _ _)
    rw [List.map_map]
    exact List.map_congr_left fun n _ => h.on _ _
  · show List.map _ _ = List.map _ (List.map _ _)
    rw [List.map_map]
    exact List.map_congr_left fun n _ => h.on _ _
theorem told_after (N : Nat) (l : List Sti) : Told (told N (afterK N l)) := by
  have ho := once_after N l
  have hf : ∀ b : Int, b = 0 ∨ b = 1 → ∀ m ∈ (List.range N).map (fun n : Nat => (afterK N l).on b (n : Int)), ∀ x ∈ m, 0 ≤ x ∧ x < ((afterK N l).loops.length : Int) := fun b hb m hm x hx => by
    obtain ⟨n, hn, rfl⟩ := List.mem_map.1 hm
    exact ho.mem ⟨hb, by omega, by have := List.mem_range.1 hn; omega⟩ hx
  refine ⟨fun i hi x hx => ?_, hf 0 (.inl rfl), hf 1 (.inr rfl), fun x hx => ?_⟩
  · have hi' : i < (afterK N l).loops.length := hi
    have e : (told N (afterK N l)).loops.getD i noLop = (afterK N l).loops[i] := by
      show (afterK N l).loops.getD i noLop = _
      rw [List.getD_eq_getElem?_getD, List.getElem?_eq_getElem hi']; rfl
    rw [e] at hx
    have := ho.back i hi' x hx
    refine ⟨this.1, ?_⟩
    show x < ((afterK N l).loops.length : Int)
    omega
  · have h1 := ho.one x
    have h2 : 0 < (afterK N l).loose.count x := List.count_pos_iff.2 hx
    refine Classical.byContradiction fun c => ?_
    have c' : ¬ (0 ≤ x ∧ x < ((afterK N l).loops.length : Int)) := c
    rw [if_neg c'] at h1
    unfold cntK at h1
    have h3 : (told N (afterK N l)).loose = (afterK N l).loose := rfl
    omega

/-! ### two stitches in the other order -/
def onS (r : Int) (x : Sti) (id : Int) (on : Int → Int → List Int) : Int → Int → List Int :=
  if x.d = 1 then put on x.b x.n [id] else
  if x.d = 2 then put on x.b x.n (on x.b x.n ++ [id]) else
  if x.d = 4 then put (put on (fB x.b) (fN r x.b x.n) (on (fB x.b) (fN r x.b x.n) ++ on x.b x.n)) x.b x.n [] else
  if x.d = 5 then put on x.b x.n [] else on
def newL (x : Sti) (on : Int → Int → List Int) : List Lop := if x.d = 1 then [⟨x.c, on x.b x.n⟩] else if x.d = 2 then [⟨x.c, []⟩] else []
def newO (x : Sti) (on : Int → Int → List Int) : List Int := if x.d = 5 then on x.b x.n else []
theorem step_parts {k : KS} {x : Sti} (h : x.d ≠ 6) : stepK k x = ⟨k.loops ++ newL x k.on, onS k.rack x k.loops.length k.on, k.loose ++ newO x k.on, k.rack, k.done + 1⟩ := by
  unfold stepK newL onS newO
  rw [if_neg h]
  by_cases h1 : x.d = 1
  · have h5 : ¬ x.d = 5 := by omega
    simp only [if_pos h1, if_neg h5, List.append_nil]
  by_cases h2 : x.d = 2
  · have h5 : ¬ x.d = 5 := by omega
    simp only [if_neg h1, if_pos h2, if_neg h5, List.append_nil]
  by_cases h4 : x.d = 4
  · have h5 : ¬ x.d = 5 := by omega
    simp only [if_neg h1, if_neg h2, if_pos h4, if_neg h5, List.append_nil]
  by_cases h5 : x.d = 5
  · simp only [if_neg h1, if_neg h2, if_neg h4, if_pos h5, List.append_nil]
  · simp only [if_neg h1, if_neg h2, if_neg h4, if_neg h5, List.append_nil]
theorem on_far {r : Int} {x : Sti} {id : Int} {on : Int → Int → List Int} {b n : Int} (h : (b, n) ∉ touchK x r) (h3 : 1 ≤ x.d) (h6 : x.d < 6) : onS r x id on b n = on b n := by
  unfold touchK at h
  unfold onS
  by_cases h1 : x.d = 1
  · rw [if_pos h1]
    rw [if_neg (by omega), if_neg (by omega)] at h
    exact put_ne _ _ fun c => h (by simp [c.1, c.2])
  rw [if_neg h1]
  by_cases h2 : x.d = 2
  · rw [if_pos h2]
    rw [if_neg (by omega), if_neg (by omega)] at h
    exact put_ne _ _ fun c => h (by simp [c.1, c.2])
  rw [if_neg h2]
  by_cases h4 : x.d = 4
  · rw [if_pos h4]
    rw [if_neg (by omega), if_pos h4] at h
    rw [put_ne _ _ (fun c => h (by simp [c.1, c.2])), put_ne _ _ (fun c => h (by simp [c.1, c.2]))]
  rw [if_neg h4]
  by_cases h5 : x.d = 5
  · rw [if_pos h5]
    rw [if_neg (by omega), if_neg (by omega)] at h
    exact put_ne _ _ fun c => h (by simp [c.1, c.2])
  rw [if_neg h5]
theorem touch_own {x : Sti} {r : Int} (h3 : x.d ≠ 3) : (x.b, x.n) ∈ touchK x r := by
  unfold touchK
  rw [if_neg h3]
  split <;> simp
theorem touch_faced {x : Sti} {r : Int} (h4 : x.d = 4) : (fB x.b, fN r x.b x.n) ∈ touchK x r := by
  unfold touchK
  rw [if_neg (by omega), if_pos h4]
  simp
theorem on_near {π : Nat → Nat} {r : Int} {x : Sti} {id id' : Int} {on on' : Int → Int → List Int} (h : ∀ b n, (b, n) ∈ touchK x r → on' b n = (on b n).map (rn π)) (hid : yarnK x = true → id' = rn π id) {b n : Int} (hb : (b, n) ∈ touchK x r) :
    onS r x id' on' b n = (onS r x id on b n).map (rn π) := by
  have hp : ∀ (o o' : Int → Int → List Int) (b0 n0 : Int) (l l' : List Int), (∀ b n, (b, n) ∈ touchK x r → o' b n = (o b n).map (rn π)) → l' = l.map (rn π) → ∀ b n, (b, n) ∈ touchK x r → put o' b0 n0 l' b n = (put o b0 n0 l b n).map (rn π) := fun o o' b0 n0 l l' h1 h2 b n h3 => by
    unfold put
    split
    · exact h2
    · exact h1 b n h3
  unfold onS
  by_cases h1 : x.d = 1
  · rw [if_pos h1, if_pos h1]
    exact hp _ _ _ _ _ _ h (by rw [hid (by unfold yarnK; simp [h1])]; rfl) _ _ hb
  rw [if_neg h1, if_neg h1]
  by_cases h2 : x.d = 2
  · rw [if_pos h2, if_pos h2]
    exact hp _ _ _ _ _ _ h (by rw [hid (by unfold yarnK; simp [h2]), h _ _ (touch_own (by omega)), List.map_append]; rfl) _ _ hb
  rw [if_neg h2, if_neg h2]
  by_cases h4 : x.d = 4
  · rw [if_pos h4, if_pos h4]
    refine hp _ _ _ _ _ _ (hp _ _ _ _ _ _ h ?_) (List.map_nil).symm _ _ hb
    rw [h _ _ (touch_own (by omega)), h _ _ (touch_faced h4), List.map_append]
  rw [if_neg h4, if_neg h4]
  by_cases h5 : x.d = 5
  · rw [if_pos h5, if_pos h5]
    exact hp _ _ _ _ _ _ h (List.map_nil).symm _ _ hb
  rw [if_neg h5, if_neg h5]
  exact h _ _ hb
/-- what a stitch may do hangs on its needles -/
theorem wrong_loc {N : Nat} {k k' : KS} {x : Sti} (hr : k'.rack = k.rack) (ho : ∀ b n, (b, n) ∈ touchK x k.rack → k'.on b n = k.on b n) (hd : k'.done < 4096) (h : wrongK N k x = 0) : wrongK N k' x = 0 := by
  have hdk := (wrong_bounds h).2.2.1
  unfold wrongK at h ⊢
  rw [if_neg (by omega : ¬ 4096 ≤ k'.done)]
  rw [if_neg (by omega : ¬ 4096 ≤ k.done)] at h
  by_cases h3 : x.d = 3
  · rw [hr]
    rw [if_neg (by omega), if_neg (by omega)] at h ⊢
    by_cases c1 : ¬ There N x.b x.n
    · rw [if_pos c1] at h ⊢; exact h
    rw [if_neg c1] at h ⊢
    by_cases c2 : x.d ≤ 3 ∧ (x.c < 0 ∨ 7 < x.c)
    · rw [if_pos c2] at h ⊢; exact h
    rw [if_neg c2, if_neg (by omega), if_pos h3]
  · have e1 : k'.ln x = k.ln x := by unfold KS.ln; rw [ho _ _ (touch_own h3)]
    by_cases h4 : x.d = 4
    · have e2 : k'.lf x = k.lf x := by unfold KS.lf; rw [hr, ho _ _ (touch_faced h4)]
      rw [e1, e2, hr]; exact h
    · rw [e1, hr]
      have c : ∀ z, ¬ (x.d = 4 ∧ z) := fun z e => h4 e.1
      rw [if_neg (c _), if_neg (c _)] at h
      rw [if_neg (c _), if_neg (c _)]
      exact h
/-- the two loops laid last change their numbers -/
def swapN (L i : Nat) : Nat := if i = L then L + 1 else if i = L + 1 then L else i
theorem swapN_two (L i : Nat) : swapN L (swapN L i) = i := by unfold swapN; (repeat' split) <;> omega
theorem rn_id (x : Int) (h : 0 ≤ x) : rn (fun i => i) x = x := by unfold rn; dsimp only; omega
theorem map_low {π : Nat → Nat} {L : Nat} (hp : ∀ i, i < L → π i = i) {l : List Int} (h : ∀ x ∈ l, 0 ≤ x ∧ x < (L : Int)) : l = l.map (rn π) := by
  have : l.map (rn π) = l.map id := List.map_congr_left fun x hx => by
    have := h x hx
    unfold rn
    rw [hp _ (by omega)]
    show _ = x
    omega
  rw [this, List.map_id]
theorem newL_congr {x : Sti} {r : Int} {on on' : Int → Int → List Int} (h : ∀ b n, (b, n) ∈ touchK x r → on' b n = on b n) : newL x on' = newL x on := by
  unfold newL
  split
  · rw [h _ _ (touch_own (by omega))]
  · rfl
theorem newO_congr {x : Sti} {r : Int} {on on' : Int → Int → List Int} (h : ∀ b n, (b, n) ∈ touchK x r → on' b n = on b n) : newO x on' = newO x on := by
  unfold newO
  split
  · rw [h _ _ (touch_own (by omega))]
  · rfl
theorem newL_len (x : Sti) (on : Int → Int → List Int) : (newL x on).length = if yarnK x = true then 1 else 0 := by
  unfold newL yarnK
  by_cases h1 : x.d = 1
  · simp [h1]
  by_cases h2 : x.d = 2
  · simp [h1, h2]
  · simp [h1, h2]
theorem newL_one {x : Sti} {on : Int → Int → List Int} (h : yarnK x = true) : ∃ t, newL x on = [⟨x.c, t⟩] ∧ (t = on x.b x.n ∨ t = []) := by
  unfold yarnK at h
  rw [decide_eq_true_iff] at h
  unfold newL
  by_cases h1 : x.d = 1
  · exact ⟨_, by rw [if_pos h1], .inl rfl⟩
  · exact ⟨_, by rw [if_neg h1, if_pos (by omega)], .inr rfl⟩
theorem newL_no {x : Sti} {on : Int → Int → List Int} (h : ¬ yarnK x = true) : newL x on = [] := by
  unfold yarnK at h
  rw [decide_eq_true_iff] at h
  unfold newL
  rw [if_neg (by omega), if_neg (by omega)]
end Go.Proofs.Ytaacfjeddoekfaa
