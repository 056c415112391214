/- Chapter 12: two stitches of a list exchanged: what the machine's May says; memory. -/
import Derived.Test.YtaacfjeddoekfaaFabWalk6
import Derived.Test.YtaacfjeddoekfaaPlanT
import Derived.Test.YtaacfjeddoekfaaOpenKnit
namespace Go.Proofs.Ytaacfjeddoekfaa
open Go.RowKit
set_option linter.unusedVariables false

theorem touchW_eq {N : Nat} {x : Sti} {r : Int} (h2 : N ≤ 128) (hr : -4 ≤ r ∧ r ≤ 4) (ht : There N x.b x.n) : touchW x r = touchK x r := by
  obtain ⟨hb, h0, h1⟩ := ht
  unfold touchW touchK
  split
  · rfl
  split
  · have w1 : wrap64 (x.n - r) = x.n - r := IntWalk.wrap64_in _ (by omega)
    have w2 : wrap64 (x.n + r) = x.n + r := IntWalk.wrap64_in _ (by omega)
    unfold fB fN
    rcases hb with hb | hb
    · rw [if_pos hb, if_pos hb, if_pos hb, w1]
    · rw [if_neg (by omega), if_neg (by omega), if_neg (by omega), w2]
  · rfl
theorem mayW_K {N : Nat} {k : KS} {x y : Sti} (h2 : N ≤ 128) (hk : Kinv N k) (hx : wrongK N k x = 0) (hy : wrongK N (stepK k x) y = 0) (h : mayW x y k.rack = true) : mayK x y k.rack := by
  unfold mayW at h
  split at h
  · cases h
  next h6 =>
  split at h
  · cases h
  next hc =>
  have d1 : x.d ≠ 6 := fun e => h6 (.inl e)
  have d2 : y.d ≠ 6 := fun e => h6 (.inr e)
  have tx := (wrong_bounds hx).2.2.2.2.1 d1
  have ty := (wrong_bounds hy).2.2.2.2.1 d2
  refine ⟨d1, d2, fun ⟨a, b, c⟩ => hc (by rw [a, b, c]; simp), fun a ha hb => ?_⟩
  rw [← touchW_eq h2 hk.r tx] at ha
  rw [← touchW_eq h2 hk.r ty] at hb
  have := List.all_eq_true.1 h a ha
  simp [hb] at this

def rackF (l : List Sti) : Int := l.foldl (fun r x => if x.d = 6 then x.t else r) 0
theorem rackF_snoc {l : List Sti} {i : Nat} (h : i < l.length) : rackF (l.take (i + 1)) = if l[i].d = 6 then l[i].t else rackF (l.take i) := by
  unfold rackF
  rw [List.take_succ_eq_append_getElem h, List.foldl_append]; rfl
/-- a list that makes the same cloth -/
structure AlikeC (N : Nat) (l m : List Sti) : Prop where
  len : m.length = l.length
  fl : Flawless N m
  cl : cloth (told N (afterK N m)) = cloth (told N (afterK N l))
theorem flaw_left {N : Nat} {p q : List Sti} (h : Flawless N (p ++ q)) : Flawless N p := fun e he => h e (by rw [errsK_append]; exact List.mem_append_left _ he)
theorem AlikeC.swap {N : Nat} {l P Q : List Sti} {x y : Sti} (h2 : N ≤ 128) (h : AlikeC N l (P ++ x :: y :: Q)) (hm : mayW x y (rackF P) = true) : AlikeC N l (P ++ y :: x :: Q) := by
  have hP : rackF P = (afterK N P).rack := (good_rack P zeroK (flaw_left h.fl)).symm
  have hfl := h.fl
  unfold Flawless at hfl
  rw [errsK_append] at hfl
  have hx : wrongK N (afterK N P) x = 0 := hfl _ (List.mem_append_right _ (List.mem_cons_self ..))
  have hy : wrongK N (stepK (afterK N P) x) y = 0 := hfl _ (List.mem_append_right _ (List.mem_cons_of_mem _ (by rw [errsK]; show _ ∈ wrongK N (doK N (afterK N P) x) y :: _; rw [do_good hx]; exact List.mem_cons_self ..)))
  rw [hP] at hm
  obtain ⟨g1, g2⟩ := swap_good h.fl (mayW_K h2 (kinv_after N P) hx hy hm)
  exact ⟨by rw [← h.len]; simp, g1, g2.trans h.cl⟩
theorem split_two {α : Type} {m : List α} {j : Nat} (h : j + 1 < m.length) : m = m.take j ++ m[j] :: m[j + 1] :: m.drop (j + 2) := by
  have h0 : j < m.length := by omega
  conv => lhs; rw [← List.take_append_drop j m]
  rw [List.drop_eq_getElem_cons h0, List.drop_eq_getElem_cons h]

/-! ### memory -/
theorem two_block (w : World) (q : Nat) (a b : Value) (x : Nat) (h : x ≠ q) : ((w.setCell ⟨q, 0, none⟩ a).setCell ⟨q, 1, none⟩ b).heap[x]? = w.heap[x]? :=
  (Below.heap_setCell _ _ _ _ h).trans (Below.heap_setCell _ _ _ _ h)
theorem two_size (w : World) (q : Nat) (a b : Value) : ((w.setCell ⟨q, 0, none⟩ a).setCell ⟨q, 1, none⟩ b).heap.size = w.heap.size := by simp [World.setCell]
theorem set_far {A B : List Value} {k : Nat} {u : Value} {a : Nat} (ha : A.length = a) : (A ++ B).set (a + k) u = A ++ B.set k u := by
  subst ha
  rw [List.set_append_right _ _ (Nat.le_add_right _ _), Nat.add_sub_cancel_left]
theorem flat_len5 (l : List Sti) : (l.flatMap Sti.cells).length = l.length * 5 := by
  induction l with
  | nil => rfl
  | cons x l ih => rw [List.flatMap_cons, List.length_append, ih, Sti.cells_len, List.length_cons]; omega
/-- five cells set -/
def set5 (w : World) (g o : Nat) (x : Sti) : World :=
  (((((w.setCell ⟨g, o, none⟩ (.int .i64 x.d)).setCell ⟨g, o + 1, none⟩ (.int .i64 x.b)).setCell ⟨g, o + 2, none⟩ (.int .i64 x.n)).setCell ⟨g, o + 3, none⟩ (.int .i64 x.c)).setCell ⟨g, o + 4, none⟩ (.int .i64 x.t))
theorem own_set5 {w : World} {base g n c : Nat} {e : TypeId} {P Q : List Sti} {y : Sti} (x : Sti) (h : w.ownsRow base e 5 (.slice (some ⟨g, 0, none⟩) n c) n ((P ++ y :: Q).flatMap Sti.cells)) :
    (set5 w g (P.length * 5) x).ownsRow base e 5 (.slice (some ⟨g, 0, none⟩) n c) n ((P ++ x :: Q).flatMap Sti.cells) ∧ w.grownBy (set5 w g (P.length * 5) x) (some g) := by
  have k0 := h.stored (P.length * 5) (.int .i64 x.d)
  have k1 := k0.1.stored (P.length * 5 + 1) (.int .i64 x.b)
  have k2 := k1.1.stored (P.length * 5 + 2) (.int .i64 x.n)
  have k3 := k2.1.stored (P.length * 5 + 3) (.int .i64 x.c)
  have k4 := k3.1.stored (P.length * 5 + 4) (.int .i64 x.t)
  have e : (((((((P ++ y :: Q).flatMap Sti.cells).set (P.length * 5) (.int .i64 x.d)).set (P.length * 5 + 1) (.int .i64 x.b)).set (P.length * 5 + 2) (.int .i64 x.n)).set (P.length * 5 + 3) (.int .i64 x.c)).set (P.length * 5 + 4) (.int .i64 x.t)) = (P ++ x :: Q).flatMap Sti.cells := by
    rw [List.flatMap_append, List.flatMap_append, List.flatMap_cons, List.flatMap_cons]
    have hl := flat_len5 P
    have s0 := fun (B : List Value) (u : Value) => set_far (B := B) (k := 0) (u := u) hl
    rw [Nat.add_zero] at s0
    rw [s0, set_far hl, set_far hl, set_far hl, set_far hl]
    rfl
  rw [e] at k4
  exact ⟨k4.1, grownBy_trans k0.2 (grownBy_trans k1.2 (grownBy_trans k2.2 (grownBy_trans k3.2 k4.2)))⟩
theorem own_swap {w : World} {base g n c : Nat} {e : TypeId} {P Q : List Sti} {x y : Sti} (h : w.ownsRow base e 5 (.slice (some ⟨g, 0, none⟩) n c) n ((P ++ x :: y :: Q).flatMap Sti.cells)) :
    (set5 (set5 w g (P.length * 5) y) g ((P.length + 1) * 5) x).ownsRow base e 5 (.slice (some ⟨g, 0, none⟩) n c) n ((P ++ y :: x :: Q).flatMap Sti.cells) ∧ w.grownBy (set5 (set5 w g (P.length * 5) y) g ((P.length + 1) * 5) x) (some g) ∧
    (set5 (set5 w g ((P.length + 1) * 5) x) g (P.length * 5) y).ownsRow base e 5 (.slice (some ⟨g, 0, none⟩) n c) n ((P ++ y :: x :: Q).flatMap Sti.cells) ∧ w.grownBy (set5 (set5 w g ((P.length + 1) * 5) x) g (P.length * 5) y) (some g) := by
  have a1 := own_set5 y h
  have e1 : P ++ y :: y :: Q = (P ++ [y]) ++ y :: Q := by simp
  have a1' := a1.1
  rw [e1] at a1'
  have a2 := own_set5 x a1'
  have l1 : (P ++ [y]).length = P.length + 1 := by simp
  rw [l1] at a2
  have e2 : (P ++ [y]) ++ x :: Q = P ++ y :: x :: Q := by simp
  rw [e2] at a2
  have h' := h
  have e3 : P ++ x :: y :: Q = (P ++ [x]) ++ y :: Q := by simp
  rw [e3] at h'
  have b1 := own_set5 x h'
  have l2 : (P ++ [x]).length = P.length + 1 := by simp
  rw [l2] at b1
  have e4 : (P ++ [x]) ++ x :: Q = P ++ x :: x :: Q := by simp
  rw [e4] at b1
  have b2 := own_set5 y b1.1
  exact ⟨a2.1, grownBy_trans a1.2 a2.2, b2.1, grownBy_trans b1.2 b2.2⟩

/-- the cells of a stitch of the call's own -/
theorem own_sti {w : World} {base g n c : Nat} {l : List Sti} (h : w.ownsRow base 44 5 (.slice (some ⟨g, 0, none⟩) n c) n (l.flatMap Sti.cells)) {k : Nat} (hk : k < l.length) :
    w.cell? ⟨g, k * 5, none⟩ = some (.int .i64 l[k].d) ∧ w.cell? ⟨g, k * 5 + 1, none⟩ = some (.int .i64 l[k].b) ∧ w.cell? ⟨g, k * 5 + 2, none⟩ = some (.int .i64 l[k].n) ∧ w.cell? ⟨g, k * 5 + 3, none⟩ = some (.int .i64 l[k].c) ∧ w.cell? ⟨g, k * 5 + 4, none⟩ = some (.int .i64 l[k].t) := by
  have hn : n = l.length := by have := h.1; rw [flat_len5] at this; omega
  obtain ⟨g', e, _, _, hc⟩ := own_some h (by omega)
  cases e
  have hg : ∀ m u, (l[k].cells)[m]? = some u → w.cell? ⟨g, k * 5 + m, none⟩ = some u := fun m u hu => by
    have hm : m < 5 := by have := (List.getElem?_eq_some_iff.1 hu).1; rwa [Sti.cells_len] at this
    exact hc _ u (by rw [← hu]; exact flat_get Sti.cells_len l hk hm)
  exact ⟨hg 0 _ rfl, hg 1 _ rfl, hg 2 _ rfl, hg 3 _ rfl, hg 4 _ rfl⟩
theorem own_swap_cells {w : World} {base g n c k : Nat} {m P R : List Sti} {x y : Sti} (h : w.ownsRow base 44 5 (.slice (some ⟨g, 0, none⟩) n c) n (m.flatMap Sti.cells)) (hm : m = P ++ x :: y :: R) (hP : P.length = k) :
    w.cell? ⟨g, k * 5, none⟩ = some (.int .i64 x.d) ∧ w.cell? ⟨g, k * 5 + 1, none⟩ = some (.int .i64 x.b) ∧ w.cell? ⟨g, k * 5 + 2, none⟩ = some (.int .i64 x.n) ∧ w.cell? ⟨g, k * 5 + 3, none⟩ = some (.int .i64 x.c) ∧ w.cell? ⟨g, k * 5 + 4, none⟩ = some (.int .i64 x.t) ∧
    w.cell? ⟨g, (k + 1) * 5, none⟩ = some (.int .i64 y.d) ∧ w.cell? ⟨g, (k + 1) * 5 + 1, none⟩ = some (.int .i64 y.b) ∧ w.cell? ⟨g, (k + 1) * 5 + 2, none⟩ = some (.int .i64 y.n) ∧ w.cell? ⟨g, (k + 1) * 5 + 3, none⟩ = some (.int .i64 y.c) ∧ w.cell? ⟨g, (k + 1) * 5 + 4, none⟩ = some (.int .i64 y.t) := by
  subst hm hP
  have hl : P.length + 1 < (P ++ x :: y :: R).length := by simp
  have e0 : (P ++ x :: y :: R)[P.length]'(by omega) = x := by simp
  have e1 : (P ++ x :: y :: R)[P.length + 1]'hl = y := by simp
  obtain ⟨a0, a1, a2, a3, a4⟩ := own_sti h (k := P.length) (by omega)
  obtain ⟨b0, b1, b2, b3, b4⟩ := own_sti h hl
  rw [e0] at a0 a1 a2 a3 a4
  rw [e1] at b0 b1 b2 b3 b4
  exact ⟨a0, a1, a2, a3, a4, b0, b1, b2, b3, b4⟩
theorem own_free {w : World} {base g n c : Nat} {e : TypeId} {size : Nat} {xs : List Value} (h : w.ownsRow base e size (.slice (some ⟨g, 0, none⟩) n c) n xs) (j : Nat) : w.frozen? ⟨g, j, none⟩ = false := h.frozenAt j
theorem own_swapK {w : World} {base g n c k : Nat} {e : TypeId} {m P Q : List Sti} {x y : Sti} (h : w.ownsRow base e 5 (.slice (some ⟨g, 0, none⟩) n c) n (m.flatMap Sti.cells)) (hm : m = P ++ x :: y :: Q) (hP : P.length = k) :
    (set5 (set5 w g (k * 5) y) g ((k + 1) * 5) x).ownsRow base e 5 (.slice (some ⟨g, 0, none⟩) n c) n ((P ++ y :: x :: Q).flatMap Sti.cells) ∧ w.grownBy (set5 (set5 w g (k * 5) y) g ((k + 1) * 5) x) (some g) := by
  subst hm hP
  exact ⟨(own_swap h).1, (own_swap h).2.1⟩
/-! ### what is appended, wherever it lies -/
def Wide (v : Value) : Prop := v = .slice none 0 0 ∨ ∃ a n c, v = .slice (some a) n c
theorem wp_appW {P : Program} {W w0 : World} {o : Oper} {a : Act} {K : Act → World → Prop} {Q : Exit → Act → World → Prop} {s x : Operand} {t e : TypeId} {z : Value} {size bytes : Nat}
    (T : SliceT P t e z size bytes) (us : List Value) {base : Nat} {v : Value} {n m c : Nat} {xs : List Value} {A : Option Addr} {S : Nat → Prop}
    (hown : W.ownsRow base e size v n xs) (hb : Below base w0 W) (hbase : base ≤ w0.heap.size)
    (ho : o.op = .call { callee := .builtin .append, args := #[s, x], argTypes := #[t, t] })
    (hs : a.eval s = v) (hx : a.eval x = .slice A m c) (hw : Wide (.slice A m c)) (hr : Row W S size A m us)
    (h1 : ∀ u ∈ us, u.oneCell' = true) (hbytes : (n + m) * bytes ≤ 140737488355328)
    (h : ∀ v' w', w'.ownsRow base e size v' (n + m) (xs ++ us) → Below base w0 w' → W.grownBy w' v.ownBlock → (v'.ownBlock = v.ownBlock ∨ v'.ownBlock = some W.heap.size) →
      K (a.put o.dst v') w') : o.wp P a W K Q := by
  obtain ⟨i, hi0, hz, hsize, hby⟩ := info_parts T.hi
  have hl := hr.len
  rcases hw with hw | ⟨g, n', c', hw⟩
  · simp only [Value.slice.injEq] at hw
    obtain ⟨rfl, rfl, rfl⟩ := hw
    have hus : us = [] := List.eq_nil_of_length_eq_zero (by omega)
    subst hus
    have hrun := run_append_owned_none (P := P) W base t o.type e i size T.ht hi0 v n xs hown
    unfold Oper.wp execOp
    simp only [ho, resolve, invoke, builtin, Sem.run_bind, Sem.run_pure, Result.andThen_ok, List.map_toArray, List.map_cons, List.map_nil, hs, hx, hrun]
    exact h v W (by simpa using hown) hb (World.grownBy.refl _ _) (.inl rfl)
  · simp only [Value.slice.injEq] at hw
    obtain ⟨rfl, rfl, rfl⟩ := hw
    have hbs : base ≤ W.heap.size := Nat.le_trans hbase hb.size
    have hn1 : n + m ≤ maxLen := by
      have h3 : n + m ≤ (n + m) * bytes := Nat.le_mul_of_pos_right _ T.hb
      unfold maxLen
      omega
    have hcells : ∀ j u, us[j]? = some u → W.cell? (g.add j) = some u := fun j u hu => by
      have hj : j < us.length := (List.getElem?_eq_some_iff.1 hu).1
      rcases Nat.eq_zero_or_pos m with h0 | h0
      · rw [h0, Nat.zero_mul] at hl; omega
      · obtain ⟨b, o, e, _, hc⟩ := hr.at_ h0
        cases e
        rw [Addr.add_lit]
        exact hc j u hu
    obtain ⟨v', w', hrn, h2, h3, _, h5⟩ := run_append_own_at (P := P) W base t o.type e i z size bytes T.ht hi0 hz hsize hby T.hz T.hs v n xs hown g m c us hl hcells h1 hn1 hbytes hbs
    unfold Oper.wp execOp
    simp only [ho, resolve, invoke, builtin, Sem.run_bind, Sem.run_pure, Result.andThen_ok, List.map_toArray, List.map_cons, List.map_nil, hs, hx, hrn]
    exact h v' w' h2 (below_owned hb hown h3 hbase) h3 h5
theorem app_elsW {P : Program} {w w0 : World} {ops : Array Oper} {rest : List Oper} {o : Oper} {a : Act} {Q : Exit → Act → World → Prop} {s x : Operand} {t e : TypeId} {z : Value} {size bytes : Nat}
    (T : SliceT P t e z size bytes) (us : List Value) {base : Nat} {v : Value} {n m c : Nat} {xs : List Value} {A : Option Addr} {S : Nat → Prop}
    (hown : w.ownsRow base e size v n xs) (hb : Below base w0 w) (hbase : base ≤ w0.heap.size)
    (hgd : o.guard = none)
    (ho : o.op = .call { callee := .builtin .append, args := #[s, x], argTypes := #[t, t] })
    (hs : a.eval s = v) (hx : a.eval x = .slice A m c) (hw : Wide (.slice A m c)) (hr : Row w S size A m us)
    (h1 : ∀ u ∈ us, u.oneCell' = true) (hbytes : (n + m) * bytes ≤ 140737488355328)
    (h : ∀ v' w', w'.ownsRow base e size v' (n + m) (xs ++ us) → Below base w0 w' → w.grownBy w' v.ownBlock → (v'.ownBlock = v.ownBlock ∨ v'.ownBlock = some w.heap.size) →
      wpList P ops Q rest (a.put o.dst v') w') : wpList P ops Q (o :: rest) a w :=
  wpList_plain hgd fun K hK => wp_appW T us hown hb hbase ho hs hx hw hr h1 hbytes fun v' w' h2 h3 h4 h5 => hK _ _ (h v' w' h2 h3 h4 h5)
open Go.ChangeShapes Go.WideShapes Go.ChangeAt in
theorem open_wide {H : Type} {enc : TypeId × Value → H} {P : Program} {W : World} {r : Reach} {b0 : Nat} {t e : TypeId} {v : Value} {d : DataW H} {p : List MemPlace}
    (ht : P.underlying t = some (.slice e)) (hv : Value.okWide P W r b0 t v) (h : DataW.Trod enc P W 0 (fun _ => true) true t v d p) : Wide v := by
  obtain ⟨a0, len0, cap0, rfl⟩ := okWide_slice ht hv
  obtain ⟨fuel, hf0⟩ := h
  have hf' : DataW.trod enc P W 0 (fun _ => true) true fuel t [.slice a0 len0 cap0] = some (d, p) := by simpa [Value.cells] using hf0
  rcases Go.Deep.open_slice ht hf' with ⟨hcs, _⟩ | ⟨a, len, cap, m, k, D, Pl, hcs, _⟩
  · simp only [List.cons.injEq, Value.slice.injEq, and_true] at hcs
    obtain ⟨rfl, rfl, rfl⟩ := hcs
    exact .inl rfl
  · simp only [List.cons.injEq, Value.slice.injEq, and_true] at hcs
    obtain ⟨rfl, rfl, rfl⟩ := hcs
    exact .inr ⟨_, _, _, rfl⟩
end Go.Proofs.Ytaacfjeddoekfaa
