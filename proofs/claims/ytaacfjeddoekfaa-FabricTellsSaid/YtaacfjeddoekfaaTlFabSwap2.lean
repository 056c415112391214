import Derived.Test.YtaacfjeddoekfaaTl6
/- Chapter 12, plain: exchanged stitches make the same cloth. -/
namespace Go.Proofs.Ytaacfjeddoekfaa
set_option linter.unusedVariables false

theorem on_low {N : Nat} {k : KS} (hk : Kinv N k) (ho : Once N k) (b n : Int) : ∀ x ∈ k.on b n, 0 ≤ x ∧ x < (k.loops.length : Int) := fun x hx => by
  by_cases h : There N b n
  · exact ho.mem h hx
  · rw [hk.off _ _ h] at hx; cases hx
theorem loose_low {N : Nat} {k : KS} (ho : Once N k) : ∀ x ∈ k.loose, 0 ≤ x ∧ x < (k.loops.length : Int) := fun x hx => by
  have h1 := ho.one x
  have h2 : 0 < k.loose.count x := List.count_pos_iff.2 hx
  refine Classical.byContradiction fun c => ?_
  rw [if_neg c] at h1
  unfold cntK at h1
  omega
theorem thr_low {N : Nat} {k : KS} (ho : Once N k) {i : Nat} (hi : i < k.loops.length) : ∀ x ∈ (k.loops.getD i noLop).thr, 0 ≤ x ∧ x < (k.loops.length : Int) := fun x hx => by
  have e : k.loops.getD i noLop = k.loops[i] := by rw [List.getD_eq_getElem?_getD, List.getElem?_eq_getElem hi]; rfl
  rw [e] at hx
  have := ho.back i hi x hx
  omega
set_option maxHeartbeats 4000000 in
theorem swap_sim {N : Nat} {k : KS} {x y : Sti} (hk : Kinv N k) (ho : Once N k) (hx : wrongK N k x = 0) (hy : wrongK N (stepK k x) y = 0) (hm : mayK x y k.rack) :
    wrongK N k y = 0 ∧ wrongK N (stepK k y) x = 0 ∧ ∃ π, SimK π (stepK (stepK k x) y) (stepK (stepK k y) x) := by
  obtain ⟨m1, m2, m3, m4⟩ := hm
  have bx := wrong_bounds hx
  have by' := wrong_bounds hy
  have sx := step_parts (k := k) m1
  have sy := step_parts (k := k) m2
  have rx : (stepK k x).rack = k.rack := by rw [sx]
  have ry : (stepK k y).rack = k.rack := by rw [sy]
  have fx : ∀ b n, (b, n) ∈ touchK y k.rack → onS k.rack x k.loops.length k.on b n = k.on b n := fun b n h => on_far (fun c => m4 _ c h) bx.1 (by omega)
  have fy : ∀ b n, (b, n) ∈ touchK x k.rack → onS k.rack y k.loops.length k.on b n = k.on b n := fun b n h => on_far (fun c => m4 _ h c) by'.1 (by omega)
  have dx : (stepK k x).done = k.done + 1 := by rw [sx]
  have dy : (stepK k y).done = k.done + 1 := by rw [sy]
  refine ⟨wrong_loc (k := stepK k x) rx.symm (fun b n h => by rw [rx] at h; rw [sx]; exact (fx b n h).symm) bx.2.2.1 hy,
    wrong_loc (k := k) ry (fun b n h => by rw [sy]; exact fy b n h) (by rw [dy, ← dx]; exact by'.2.2.1) hx, ?_⟩
  rw [step_parts (k := stepK k x) m2, step_parts (k := stepK k y) m1, sx, sy]
  dsimp only
  rw [newL_congr fx, newO_congr fx, newL_congr fy, newO_congr fy]
  generalize hX : onS k.rack x k.loops.length k.on = onX at *
  generalize hY : onS k.rack y k.loops.length k.on = onY at *
  have ll := on_low hk ho
  have lx : ∀ l ∈ newL x k.on, ∀ e ∈ l.thr, 0 ≤ e ∧ e < (k.loops.length : Int) := fun l hl e he => by
    by_cases c : yarnK x = true
    · obtain ⟨t, h1, h2⟩ := newL_one (on := k.on) c
      rw [h1, List.mem_singleton] at hl
      subst hl
      rcases h2 with h2 | h2
      · subst h2; exact ll _ _ e he
      · subst h2; cases he
    · rw [newL_no c] at hl; cases hl
  have ly : ∀ l ∈ newL y k.on, ∀ e ∈ l.thr, 0 ≤ e ∧ e < (k.loops.length : Int) := fun l hl e he => by
    by_cases c : yarnK y = true
    · obtain ⟨t, h1, h2⟩ := newL_one (on := k.on) c
      rw [h1, List.mem_singleton] at hl
      subst hl
      rcases h2 with h2 | h2
      · subst h2; exact ll _ _ e he
      · subst h2; cases he
    · rw [newL_no c] at hl; cases hl
  have lox : ∀ e ∈ newO x k.on, 0 ≤ e ∧ e < (k.loops.length : Int) := fun e he => by
    unfold newO at he
    split at he
    · exact ll _ _ e he
    · cases he
  have loy : ∀ e ∈ newO y k.on, 0 ≤ e ∧ e < (k.loops.length : Int) := fun e he => by
    unfold newO at he
    split at he
    · exact ll _ _ e he
    · cases he
  have main : ∀ π : Nat → Nat, (∀ i, π (π i) = i) → (∀ i, i < k.loops.length → π i = i) → (∀ i, k.loops.length + (newL x k.on).length + (newL y k.on).length ≤ i → π i = i) →
      (yarnK x = true → ((k.loops ++ newL y k.on).length : Int) = rn π (k.loops.length : Int)) → (yarnK y = true → (k.loops.length : Int) = rn π ((k.loops ++ newL x k.on).length : Int)) →
      (∀ i, i < k.loops.length + (newL x k.on).length + (newL y k.on).length → ((k.loops ++ newL y k.on) ++ newL x k.on).getD (π i) noLop = ((k.loops ++ newL x k.on) ++ newL y k.on).getD i noLop) →
      (∀ i j, i < k.loops.length + (newL x k.on).length + (newL y k.on).length → j < k.loops.length + (newL x k.on).length + (newL y k.on).length → (((k.loops ++ newL x k.on) ++ newL y k.on).getD i noLop).car = (((k.loops ++ newL x k.on) ++ newL y k.on).getD j noLop).car → (i < j ↔ π i < π j)) →
      SimK π ⟨(k.loops ++ newL x k.on) ++ newL y k.on, onS k.rack y ((k.loops ++ newL x k.on).length : Int) onX, (k.loose ++ newO x k.on) ++ newO y k.on, k.rack, k.done + 1 + 1⟩
        ⟨(k.loops ++ newL y k.on) ++ newL x k.on, onS k.rack x ((k.loops ++ newL y k.on).length : Int) onY, (k.loose ++ newO y k.on) ++ newO x k.on, k.rack, k.done + 1 + 1⟩ := fun π q1 q2 q3 q4 q5 q6 q7 => by
    have hlen : ((k.loops ++ newL x k.on) ++ newL y k.on).length = k.loops.length + (newL x k.on).length + (newL y k.on).length := by rw [List.length_append, List.length_append]
    have hon : ∀ b n, k.on b n = (k.on b n).map (rn π) := fun b n => map_low q2 (ll b n)
    have hthr : ∀ l ∈ (k.loops ++ newL x k.on) ++ newL y k.on, l.thr = l.thr.map (rn π) := fun l hl => by
      refine map_low q2 ?_
      rcases List.mem_append.1 hl with h | h
      · rcases List.mem_append.1 h with h | h
        · obtain ⟨i, hi, rfl⟩ := List.mem_iff_getElem.1 h
          intro e he
          have := ho.back i hi e he
          omega
        · exact lx l h
      · exact ly l h
    refine ⟨q1, fun i hi => q3 i (by dsimp only at hi; rw [hlen] at hi; exact hi), by dsimp only; simp only [List.length_append]; omega, fun i hi => ?_, fun i hi => ?_, fun i j hi hj hc => ?_, fun b n => ?_, ?_, rfl, rfl⟩
    · dsimp only at hi ⊢
      rw [hlen] at hi
      rw [q6 i hi]
    · dsimp only at hi ⊢
      have hi' := hi
      rw [hlen] at hi
      rw [q6 i hi]
      refine hthr _ ?_
      rw [List.getD_eq_getElem?_getD, List.getElem?_eq_getElem hi']
      exact List.getElem_mem hi'
    · dsimp only at hi hj hc
      rw [hlen] at hi hj
      exact q7 i j hi hj hc
    · dsimp only
      have b1 : x.d < 6 := by omega
      have b2 : y.d < 6 := by omega
      by_cases c : (b, n) ∈ touchK x k.rack
      · rw [on_far (fun c2 => m4 _ c c2) by'.1 b2, ← hX]
        exact on_near (fun b n h => by rw [fy b n h]; exact hon b n) q4 c
      · rw [on_far c bx.1 b1]
        by_cases c2 : (b, n) ∈ touchK y k.rack
        · rw [← hY]
          exact on_near (fun b n h => by rw [fx b n h]; exact hon b n) q5 c2
        · rw [on_far c2 by'.1 b2, ← hX, ← hY, on_far c bx.1 b1, on_far c2 by'.1 b2]
          exact hon b n
    · dsimp only
      have e : (k.loose ++ newO x k.on) ++ newO y k.on = ((k.loose ++ newO x k.on) ++ newO y k.on).map (rn π) := map_low q2 fun e he => by
        rcases List.mem_append.1 he with h | h
        · rcases List.mem_append.1 h with h | h
          · exact loose_low ho e h
          · exact lox e h
        · exact loy e h
      rw [← e, List.append_assoc, List.append_assoc]
      exact List.Perm.append_left _ List.perm_append_comm
  by_cases c : yarnK x = true ∧ yarnK y = true
  · obtain ⟨tx, ex, _⟩ := newL_one (on := k.on) c.1
    obtain ⟨ty, ey, _⟩ := newL_one (on := k.on) c.2
    have hne : x.c ≠ y.c := fun e => m3 ⟨c.1, c.2, e⟩
    refine ⟨swapN k.loops.length, main _ (swapN_two _) (fun i hi => by unfold swapN; rw [if_neg (by omega), if_neg (by omega)]) ?_ ?_ ?_ ?_ ?_⟩
    · rw [ex, ey]
      intro i hi
      simp only [List.length_singleton] at hi
      unfold swapN; rw [if_neg (by omega), if_neg (by omega)]
    · intro _
      rw [ey]
      unfold rn swapN
      rw [Int.toNat_natCast, if_pos rfl, List.length_append]; rfl
    · intro _
      rw [ex]
      unfold rn swapN
      rw [Int.toNat_natCast, List.length_append, List.length_singleton, if_neg (by omega), if_pos rfl]
    · rw [ex, ey]
      intro i hi
      simp only [List.length_singleton] at hi
      rw [List.append_assoc, List.append_assoc]
      simp only [List.cons_append, List.nil_append]
      unfold swapN
      split
      · next e => rw [getD_next rfl, getD_at e]
      split
      · next e => rw [getD_at rfl, getD_next e]
      · rw [getD_left (by omega), getD_left (by omega)]
    · rw [ex, ey]
      intro i j hi hj
      simp only [List.length_singleton] at hi hj
      rw [List.append_assoc]
      simp only [List.cons_append, List.nil_append]
      intro hc
      by_cases i1 : i = k.loops.length
      · by_cases j1 : j = k.loops.length + 1
        · rw [getD_at i1, getD_next j1] at hc
          exact absurd hc hne
        · unfold swapN
          rw [if_pos i1, if_neg j1]
          split <;> omega
      · by_cases i2 : i = k.loops.length + 1
        · by_cases j1 : j = k.loops.length
          · rw [getD_at j1, getD_next i2] at hc
            exact absurd hc.symm hne
          · unfold swapN
            rw [if_neg i1, if_pos i2, if_neg j1]
            split <;> omega
        · unfold swapN
          rw [if_neg i1, if_neg i2]
          (repeat' split) <;> omega
  · have hz : newL x k.on = [] ∨ newL y k.on = [] := by
      by_cases c1 : yarnK x = true
      · exact .inr (newL_no fun c2 => c ⟨c1, c2⟩)
      · exact .inl (newL_no c1)
    have hsame : (k.loops ++ newL y k.on) ++ newL x k.on = (k.loops ++ newL x k.on) ++ newL y k.on := by rcases hz with h | h <;> simp [h]
    refine ⟨fun i => i, main _ (fun i => rfl) (fun i _ => rfl) (fun i _ => rfl) (fun hyx => ?_) (fun hyy => ?_) (fun i _ => by rw [hsame]) (fun i j _ _ _ => Iff.rfl)⟩
    · rw [newL_no fun c2 => c ⟨hyx, c2⟩, List.append_nil, rn_id _ (by omega)]
    · rw [newL_no fun c2 => c ⟨c2, hyy⟩, List.append_nil, rn_id _ (by omega)]
/-- two that may be exchanged, anywhere in a list -/
theorem swap_good {N : Nat} {p q : List Sti} {x y : Sti} (h : Flawless N (p ++ x :: y :: q)) (hm : mayK x y (afterK N p).rack) :
    Flawless N (p ++ y :: x :: q) ∧ cloth (told N (afterK N (p ++ y :: x :: q))) = cloth (told N (afterK N (p ++ x :: y :: q))) := by
  unfold Flawless at h
  rw [errsK_append] at h
  have hx : wrongK N (afterK N p) x = 0 := h _ (List.mem_append_right _ (List.mem_cons_self ..))
  have hy : wrongK N (stepK (afterK N p) x) y = 0 := h _ (List.mem_append_right _ (List.mem_cons_of_mem _ (by rw [errsK]; show _ ∈ wrongK N (doK N (afterK N p) x) y :: _; rw [do_good hx]; exact List.mem_cons_self ..)))
  obtain ⟨wy, wx, π, hs⟩ := swap_sim (kinv_after N p) (once_after N p) hx hy hm
  have e1 : ∀ k, doK N (doK N (afterK N p) x) y = k → k = stepK (stepK (afterK N p) x) y := fun k hk => by rw [← hk, do_good hx, do_good hy]
  have e2 : ∀ k, doK N (doK N (afterK N p) y) x = k → k = stepK (stepK (afterK N p) y) x := fun k hk => by rw [← hk, do_good wy, do_good wx]
  have hs' : SimK π (doK N (doK N (afterK N p) x) y) (doK N (doK N (afterK N p) y) x) := by rw [e1 _ rfl, e2 _ rfl]; exact hs
  obtain ⟨r1, r2⟩ := run_sim (N := N) q _ _ hs'
  have a1 : afterK N (p ++ x :: y :: q) = q.foldl (doK N) (doK N (doK N (afterK N p) x) y) := by unfold afterK; rw [List.foldl_append]; rfl
  have a2 : afterK N (p ++ y :: x :: q) = q.foldl (doK N) (doK N (doK N (afterK N p) y) x) := by unfold afterK; rw [List.foldl_append]; rfl
  refine ⟨?_, ?_⟩
  · unfold Flawless
    rw [errsK_append]
    intro e he
    rcases List.mem_append.1 he with c | c
    · exact h e (List.mem_append_left _ c)
    · rw [errsK] at c
      rcases List.mem_cons.1 c with c | c
      · rw [c]; exact wy
      rw [errsK] at c
      rcases List.mem_cons.1 c with c | c
      · rw [c]
        show wrongK N (doK N (afterK N p) y) x = 0
        rw [do_good wy]; exact wx
      · refine h e (List.mem_append_right _ (List.mem_cons_of_mem _ ?_))
        rw [errsK]
        refine List.mem_cons_of_mem _ ?_
        have c' : e ∈ errsK N (doK N (doK N (afterK N p) y) x) q := c
        rw [r1] at c'
        exact c'
  · rw [a2, a1]
    refine cloth_ren (ren_of_sim r2) ?_
    rw [← a1]
    exact told_after N _
/-- in a list of which no stitch is wrong the rack is what was asked for last -/
theorem good_rack {N : Nat} : ∀ (l : List Sti) (k : KS), (∀ e ∈ errsK N k l, e = 0) → (l.foldl (doK N) k).rack = l.foldl (fun r x => if x.d = 6 then x.t else r) k.rack
  | [], k, _ => rfl
  | x :: l, k, hg => by
    rw [errsK] at hg
    have hw := hg _ (List.mem_cons_self ..)
    have hl : ∀ e ∈ errsK N (stepK k x) l, e = 0 := fun e he => hg e (List.mem_cons_of_mem _ (by rw [do_good hw]; exact he))
    rw [List.foldl_cons, List.foldl_cons, do_good hw, good_rack l _ hl]
    congr 1
    by_cases h6 : x.d = 6
    · rw [if_pos h6]; unfold stepK; rw [if_pos h6]
    · rw [if_neg h6, step_parts h6]
end Go.Proofs.Ytaacfjeddoekfaa
