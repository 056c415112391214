/- Texts of the seat, put together: Pat3, AliveWalk, Draw, Told. -/
import Derived.Test.YtmmakljmikdooaaDoorTwPat2
import Derived.Test.YtmmakljmikdooaaDoorTw21
import Derived.Test.YtmmakljmikdooaaDoorTwHouseWalk3
/- Chapter 4, plain: what is seen of a pattern is seen of the endless pattern alone. -/
namespace Go.Proofs.YtmmakljmikdooaaDoor
set_option linter.unusedVariables false

/-! ### the turns and the ways, turn by turn -/
theorem fold_T_flip : ∀ (L : List Mv) (acc : List (Nat × Unit)), (∀ m ∈ L, m.f = true) → L.foldl stepT acc = acc
  | [], _, _ => rfl
  | m :: L, acc, h => by
    rw [List.foldl_cons, show stepT acc m = acc by unfold stepT; rw [h m (by simp)]; simp]
    exact fold_T_flip L acc fun x hx => h x (by simp [hx])
theorem fold_T_done {t : Nat} : ∀ (L : List Mv) (acc : List (Nat × Unit)), (∀ m ∈ L, m.t = t) → acc.any (fun e => e.1 == t) = true → L.foldl stepT acc = acc
  | [], _, _, _ => rfl
  | m :: L, acc, h, k => by
    rw [List.foldl_cons, show stepT acc m = acc by unfold stepT; rw [h m (by simp), k]; simp]
    exact fold_T_done L acc (fun x hx => h x (by simp [hx])) k
theorem fold_T_block {t : Nat} (L : List Mv) (acc : List (Nat × Unit)) (h : ∀ m ∈ L, m.t = t ∧ m.f = false) (k : acc.any (fun e => e.1 == t) = false) : L.foldl stepT acc = acc ++ if L.isEmpty then [] else [(t, ())] := by
  cases L with
  | nil => simp
  | cons m L =>
    obtain ⟨h1, h2⟩ := h m (by simp)
    rw [List.foldl_cons, show stepT acc m = acc ++ [(t, ())] by unfold stepT; rw [h1, h2, k]; simp]
    rw [fold_T_done (t := t) L _ (fun x hx => (h x (by simp [hx])).1) (by simp)]
    simp
theorem fold_W_turn {g : Int} {s u : Pt} : ∀ (L : List Mv) (acc : List (Nat × (Bool × Bool))), (∀ m ∈ L, m.f = false) → L.foldl (stepW g s u) acc = acc
  | [], _, _ => rfl
  | m :: L, acc, h => by
    rw [List.foldl_cons, show stepW g s u acc m = acc by unfold stepW; rw [h m (by simp)]; simp]
    exact fold_W_turn L acc fun x hx => h x (by simp [hx])
theorem fold_W_done {g : Int} {s u : Pt} {t : Nat} : ∀ (L : List Mv) (acc : List (Nat × (Bool × Bool))), (∀ m ∈ L, m.t = t) → acc.any (fun e => e.1 == t) = true → L.foldl (stepW g s u) acc = acc
  | [], _, _, _ => rfl
  | m :: L, acc, h, k => by
    rw [List.foldl_cons, show stepW g s u acc m = acc by unfold stepW; rw [h m (by simp), k]; simp]
    exact fold_W_done L acc (fun x hx => h x (by simp [hx])) k
def firstW (g : Int) (s u : Pt) (t : Nat) (o : Option Mv) : List (Nat × (Bool × Bool)) := match o with
  | none => []
  | some m => [(t, wayF g s u m)]
theorem fold_W_block {g : Int} {s u : Pt} {t : Nat} (L : List Mv) (acc : List (Nat × (Bool × Bool))) (h : ∀ m ∈ L, m.t = t ∧ m.f = true) (k : acc.any (fun e => e.1 == t) = false) : L.foldl (stepW g s u) acc = acc ++ firstW g s u t L.head? := by
  cases L with
  | nil => simp [firstW]
  | cons m L =>
    obtain ⟨h1, h2⟩ := h m (by simp)
    rw [List.foldl_cons, show stepW g s u acc m = acc ++ [(t, wayF g s u m)] by unfold stepW; rw [h1, h2, k]; simp]
    rw [fold_W_done (t := t) L _ (fun x hx => (h x (by simp [hx])).1) (by simp)]
    simp [firstW]
section
variable {g : Int} {n : Nat} {f : Nat → Int}
def turnsN (g : Int) (n : Nat) (f : Nat → Int) (k : Nat) : List (Nat × Unit) := (List.range k).flatMap fun t => if (keepL g n f false t (n * n)).isEmpty then [] else [(t, ())]
def waysN (g : Int) (n : Nat) (f : Nat → Int) (s u : Pt) (k : Nat) : List (Nat × (Bool × Bool)) := (List.range k).flatMap fun t => firstW g s u t (keepL g n f true t (n * n)).head?
theorem turnsN_lt {k : Nat} : ∀ e ∈ turnsN g n f k, e.1 < k := by
  intro e he
  obtain ⟨t, ht, h⟩ := List.mem_flatMap.1 he
  rw [List.mem_range] at ht
  split at h
  · cases h
  · simp at h; subst h; exact ht
theorem waysN_lt {s u : Pt} {k : Nat} : ∀ e ∈ waysN g n f s u k, e.1 < k := by
  intro e he
  obtain ⟨t, ht, h⟩ := List.mem_flatMap.1 he
  rw [List.mem_range] at ht
  unfold firstW at h
  split at h
  · cases h
  · simp at h; subst h; exact ht
theorem no_key {δ : Type} {l : List (Nat × δ)} {k : Nat} (h : ∀ e ∈ l, e.1 < k) : l.any (fun e => e.1 == k) = false := by
  rw [List.any_eq_false]
  intro e he
  have := h e he
  simp
  omega
theorem turns_fold : ∀ k, (turnL g n f false k).foldl stepT [] = turnsN g n f k
  | 0 => rfl
  | k + 1 => by
    unfold turnL
    rw [List.range_succ, List.flatMap_append, List.foldl_append]
    rw [show (List.range k).flatMap (fun t => keepL g n f false t (n * n)) = turnL g n f false k from rfl, turns_fold k]
    simp only [List.flatMap_cons, List.flatMap_nil, List.append_nil]
    rw [fold_T_block (t := k) _ _ (fun m hm => ⟨(keepL_mem hm).1, (keepL_mem hm).2.1⟩) (no_key turnsN_lt)]
    unfold turnsN
    rw [List.range_succ, List.flatMap_append]
    simp
theorem ways_fold {s u : Pt} : ∀ k, (turnL g n f true k).foldl (stepW g s u) [] = waysN g n f s u k
  | 0 => rfl
  | k + 1 => by
    unfold turnL
    rw [List.range_succ, List.flatMap_append, List.foldl_append]
    rw [show (List.range k).flatMap (fun t => keepL g n f true t (n * n)) = turnL g n f true k from rfl, ways_fold k]
    simp only [List.flatMap_cons, List.flatMap_nil, List.append_nil]
    rw [fold_W_block (t := k) _ _ (fun m hm => ⟨(keepL_mem hm).1, (keepL_mem hm).2.1⟩) (no_key waysN_lt)]
    unfold waysN
    rw [List.range_succ, List.flatMap_append]
    simp
theorem turns_form : turnsF (allL g n f) = turnsN g n f g.toNat := by
  unfold turnsF allL
  rw [List.foldl_append, turns_fold, fold_T_flip _ _ fun m hm => (turnL_mem hm).2.1]
theorem ways_form {s u : Pt} : waysF g s u (allL g n f) = waysN g n f s u g.toNat := by
  unfold waysF allL
  rw [List.foldl_append, fold_W_turn _ _ fun m hm => (turnL_mem hm).2.1, ways_fold]
end

/-! ### the first flip -/
structure FirstK (K : Pt → Prop) (b : Pt) : Prop where
  k : K b
  x0 : 0 ≤ b.x
  y0 : 0 ≤ b.y
  le : ∀ z, K z → 0 ≤ z.x → 0 ≤ z.y → b.y < z.y ∨ (b.y = z.y ∧ b.x ≤ z.x)
theorem FirstK.unique {K : Pt → Prop} {a b : Pt} (h : FirstK K a) (k : FirstK K b) : a = b := by
  have h1 := h.le b k.k k.x0 k.y0
  have h2 := k.le a h.k h.x0 h.y0
  apply Pt.ext' <;> omega
section
variable {W H n : Nat} {cs : List Int} {g : Int} {t : Nat} {fl : Bool}
theorem KeepP.round (hW : W ∣ n) (hH : H ∣ n) (hn : 1 ≤ n) {b : Pt} (h : KeepP W H cs g t fl b) : KeepP W H cs g t fl (pt n (pl n b)) := fun z => by
  obtain ⟨k, hk⟩ := pt_round hn b
  have h1 := h z
  rw [hk] at h1
  rw [h1]
  have e : addP (lin g t fl z) (addP (pt n (pl n b)) (sc n k)) = addP (addP (lin g t fl z) (pt n (pl n b))) (sc n k) := by
    unfold addP
    apply Pt.ext' <;> (dsimp only; omega)
  rw [e, col_per hW hH]
theorem keep_head (hW : W ∣ n) (hH : H ∣ n) (hn : 1 ≤ n) : (keepL g n (layF W H cs n) fl t (n * n)).head? = none ∧ (∀ b, ¬ KeepP W H cs g t fl b) ∨ ∃ b, (keepL g n (layF W H cs n) fl t (n * n)).head? = some ⟨t, fl, b⟩ ∧ FirstK (KeepP W H cs g t fl) b := by
  unfold keepL
  rw [List.head?_map, List.head?_filter]
  cases h : (List.range (n * n)).find? fun p => decide (keepsF n (layF W H cs n) (imgF g n t fl) (pt n p)) with
  | none =>
    refine .inl ⟨rfl, fun b hb => ?_⟩
    rw [List.find?_eq_none] at h
    have := h (pl n b) (List.mem_range.2 (pl_lt hn b))
    simp only [decide_eq_true_eq] at this
    exact this ((keeps_iff hn hW hH g t fl _).2 (hb.round hW hH hn))
  | some p =>
    refine .inr ⟨pt n p, rfl, ?_⟩
    rw [List.find?_range_eq_some] at h
    obtain ⟨h1, h2, h3⟩ := h
    simp only [decide_eq_true_eq] at h1
    have hp : p < n * n := List.mem_range.1 h2
    refine ⟨(keeps_iff hn hW hH g t fl _).1 h1, Int.natCast_nonneg _, Int.natCast_nonneg _, fun z hz hx hy => ?_⟩
    have hk := (keeps_iff hn hW hH g t fl _).2 (hz.round hW hH hn)
    have hge : ¬ pl n z < p := fun hlt => by
      have := h3 _ hlt
      simp only [Bool.not_eq_true', decide_eq_false_iff_not] at this
      exact this hk
    -- the places in order are the points in order
    have e := pt_pl hn z
    have e1 : ((pl n z % n : Nat) : Int) = z.x % n := congrArg Pt.x e
    have e2 : ((pl n z / n : Nat) : Int) = z.y % n := congrArg Pt.y e
    have d1 := Nat.div_add_mod (pl n z) n
    have d2 := Nat.div_add_mod p n
    have m1 : pl n z % n < n := Nat.mod_lt _ hn
    have m2 : p % n < n := Nat.mod_lt _ hn
    have lx : z.x % (n : Int) ≤ z.x := by
      have := Int.emod_add_mul_ediv z.x n
      have := Int.mul_nonneg (show (0 : Int) ≤ n by omega) (Int.ediv_nonneg hx (show (0 : Int) ≤ n by omega))
      omega
    have ly : z.y % (n : Int) ≤ z.y := by
      have := Int.emod_add_mul_ediv z.y n
      have := Int.mul_nonneg (show (0 : Int) ≤ n by omega) (Int.ediv_nonneg hy (show (0 : Int) ≤ n by omega))
      omega
    show ((p / n : Nat) : Int) < z.y ∨ (((p / n : Nat) : Int) = z.y ∧ ((p % n : Nat) : Int) ≤ z.x)
    have hdiv : p / n ≤ pl n z / n := Nat.div_le_div_right (by omega)
    rcases Nat.lt_or_ge (p / n) (pl n z / n) with k | k
    · left; omega
    · have e3 : p / n = pl n z / n := by omega
      rw [e3] at d2
      rcases Int.lt_or_le (z.y % n) z.y with k2 | k2
      · left; omega
      · right; omega
end
theorem RepC.col {c d : Ch} {W H a b : Nat} (h : RepC c d W H a b) (z : Pt) : colP (a * W) (b * H) d.cs z = colP W H c.cs z := by
  have p1 := h.ok.W1
  have p2 := h.ok.H1
  have q1 := h.ok'.W1
  have q2 := h.ok'.H1
  have z1 := Int.emod_nonneg z.x (show ((a * W : Nat) : Int) ≠ 0 by omega)
  have z2 := Int.emod_lt_of_pos z.x (show (0 : Int) < ((a * W : Nat) : Int) by omega)
  have z3 := Int.emod_nonneg z.y (show ((b * H : Nat) : Int) ≠ 0 by omega)
  have z4 := Int.emod_lt_of_pos z.y (show (0 : Int) < ((b * H : Nat) : Int) by omega)
  have e1 : (z.x % ((a * W : Nat) : Int)).toNat % W = (z.x % (W : Int)).toNat := by
    have h1 : (z.x % ((a * W : Nat) : Int)) % (W : Int) = z.x % W := Int.emod_emod_of_dvd _ (by rw [Int.natCast_mul]; exact Int.dvd_mul_left _ _)
    have h2 := Int.emod_nonneg z.x (show (W : Int) ≠ 0 by omega)
    have h3 : (((z.x % ((a * W : Nat) : Int)).toNat % W : Nat) : Int) = z.x % W := by
      rw [Int.natCast_emod, Int.toNat_of_nonneg z1, h1]
    omega
  have e2 : (z.y % ((b * H : Nat) : Int)).toNat % H = (z.y % (H : Int)).toNat := by
    have h1 : (z.y % ((b * H : Nat) : Int)) % (H : Int) = z.y % H := Int.emod_emod_of_dvd _ (by rw [Int.natCast_mul]; exact Int.dvd_mul_left _ _)
    have h2 := Int.emod_nonneg z.y (show (H : Int) ≠ 0 by omega)
    have h3 : (((z.y % ((b * H : Nat) : Int)).toNat % H : Nat) : Int) = z.y % H := by
      rw [Int.natCast_emod, Int.toNat_of_nonneg z3, h1]
    omega
  unfold colP
  rw [List.getD, List.getD, h.cell _ _ (by omega) (by omega), e1, e2]
theorem RepC.keep {c d : Ch} {W H a b : Nat} (h : RepC c d W H a b) (g : Int) (t : Nat) (fl : Bool) : KeepP (a * W) (b * H) d.cs g t fl = KeepP W H c.cs g t fl := by
  funext z
  unfold KeepP
  simp only [h.col]
theorem RepC.step {c d : Ch} {W H a b : Nat} (h : RepC c d W H a b) (z : Pt) : stepC d (a * W) (b * H) z ↔ stepC c W H z := by
  rw [step_iff h.ok', step_iff h.ok]
  unfold StepP
  simp only [h.col]
theorem RepC.head {c d : Ch} {W H a b : Nat} (h : RepC c d W H a b) (g : Int) (t : Nat) (fl : Bool) :
    (keepL g (tor (a * W) (b * H)) (layF (a * W) (b * H) d.cs (tor (a * W) (b * H))) fl t (tor (a * W) (b * H) * tor (a * W) (b * H))).head? = (keepL g (tor W H) (layF W H c.cs (tor W H)) fl t (tor W H * tor W H)).head? := by
  have k1 := keep_head (cs := c.cs) (g := g) (t := t) (fl := fl) (tor_dvd W H).1 (tor_dvd W H).2 (tor_one h.ok)
  have k2 := keep_head (cs := d.cs) (g := g) (t := t) (fl := fl) (tor_dvd (a * W) (b * H)).1 (tor_dvd (a * W) (b * H)).2 (tor_one h.ok')
  rw [h.keep] at k2
  rcases k1 with ⟨e1, n1⟩ | ⟨b1, e1, f1⟩
  · rcases k2 with ⟨e2, n2⟩ | ⟨b2, e2, f2⟩
    · rw [e1, e2]
    · exact absurd f2.k (n1 b2)
  · rcases k2 with ⟨e2, n2⟩ | ⟨b2, e2, f2⟩
    · exact absurd f1.k (n2 b1)
    · rw [e1, e2, f1.unique f2]
theorem RepC.turns {c d : Ch} {W H a b : Nat} (h : RepC c d W H a b) : turnsF (movesC d (a * W) (b * H)) = turnsF (movesC c W H) := by
  unfold movesC
  rw [turns_form, turns_form, h.g]
  unfold turnsN
  congr 1
  funext t
  have e : ∀ l : List Mv, l.isEmpty = l.head?.isNone := fun l => by cases l <;> rfl
  rw [e, e, h.head]
theorem RepC.ways {c d : Ch} {W H a b : Nat} (h : RepC c d W H a b) (s u : Pt) : waysF d.g s u (movesC d (a * W) (b * H)) = waysF c.g s u (movesC c W H) := by
  unfold movesC
  rw [h.g, ways_form, ways_form]
  unfold waysN
  congr 1
  funext t
  rw [h.head]
/-- the kind that is told of a pattern -/
def kindC (c : Ch) (W H : Nat) (X x Y : Int) : Int := kindF c.g ⟨X, 0⟩ ⟨x, Y⟩ (turnsF (movesC c W H)).length (waysF c.g ⟨X, 0⟩ ⟨x, Y⟩ (movesC c W H))
theorem RepC.kind {c d : Ch} {W H a b : Nat} (h : RepC c d W H a b) {X x Y X' x' Y' : Int} (f : FinP (stepC c W H) X x Y) (f' : FinP (stepC d (a * W) (b * H)) X' x' Y') : kindC d (a * W) (b * H) X' x' Y' = kindC c W H X x Y := by
  obtain ⟨rfl, rfl, rfl⟩ := f.unique (f'.congr h.step)
  unfold kindC
  rw [h.turns, h.ways, h.g]
theorem RepC.tor {c d : Ch} {W H a b : Nat} (h : RepC c d W H a b) : Go.Proofs.YtmmakljmikdooaaDoor.tor W H ≤ Go.Proofs.YtmmakljmikdooaaDoor.tor (a * W) (b * H) := by
  have h1 := tor_one h.ok'
  rw [tor_lcm, tor_lcm] at *
  exact Nat.le_of_dvd h1 (Nat.lcm_dvd (Nat.dvd_trans (Nat.dvd_mul_left _ _) (Nat.dvd_lcm_left _ _)) (Nat.dvd_trans (Nat.dvd_mul_left _ _) (Nat.dvd_lcm_right _ _)))
end Go.Proofs.YtmmakljmikdooaaDoor
/- The top: alive. -/
namespace Go.Proofs.YtmmakljmikdooaaDoor
open Go.RowKit
set_option linter.unusedVariables false
set_option linter.unusedSimpArgs false

def chk : Ch := ⟨4, 2, 2, [1, 0, 0, 1]⟩
theorem chk_ok : OkC chk 2 2 := ⟨.inl rfl, rfl, rfl, by decide, by decide, by decide, by decide, rfl, by decide⟩
theorem chk_text : (⟨(printF chk 2 2).toArray⟩ : ByteArray) = ⟨#[226, 150, 161, 10, 194, 183, 226, 150, 136, 10, 226, 150, 136, 194, 183, 10]⟩ := by kernel_rfl
theorem chk_tor : tor 2 2 = 2 := by decide
instance (c : Ch) (W H : Nat) (b : Pt) : Decidable (stepC c W H b) := by unfold stepC; exact inferInstance
theorem chk_fin : FinP (stepC chk 2 2) 2 1 1 where
  X1 := by decide
  kX := by decide
  nX := fun k h1 h2 => by
    obtain rfl : k = 1 := by omega
    decide
  Y1 := by decide
  x0 := by decide
  xX := by decide
  kY := by decide
  nY := fun y k h1 h2 => by omega
  nx := fun k h1 h2 => by
    obtain rfl : k = 0 := by omega
    decide
theorem chk_kind : kindC chk 2 2 2 1 1 = 11 := by kernel_rfl
theorem chk_name : nameF 11 = ⟨#[112, 52, 109]⟩ := rfl
theorem chk_hangs : Hangs (raisedF chk 2 2) := by
  have e02 : aboveF (raisedF chk 2 2) 0 2 = true := by decide
  have e21 : aboveF (raisedF chk 2 2) 2 1 = true := by decide
  have e13 : aboveF (raisedF chk 2 2) 1 3 = true := by decide
  have e30 : aboveF (raisedF chk 2 2) 3 0 = true := by decide
  have hw : (raisedF chk 2 2).w + (raisedF chk 2 2).h = 4 := rfl
  intro s a hs ha
  rw [hw] at hs ha
  have n2 : ∀ {x}, Reach (raisedF chk 2 2) s x → x = 2 → Reach (raisedF chk 2 2) s 0 := fun h e => by subst e; exact .step h (by rw [hw]; decide) e02
  have n1 : ∀ {x}, Reach (raisedF chk 2 2) s x → x = 1 → Reach (raisedF chk 2 2) s 2 := fun h e => by subst e; exact .step h (by rw [hw]; decide) e21
  have n3 : ∀ {x}, Reach (raisedF chk 2 2) s x → x = 3 → Reach (raisedF chk 2 2) s 1 := fun h e => by subst e; exact .step h (by rw [hw]; decide) e13
  have n0 : ∀ {x}, Reach (raisedF chk 2 2) s x → x = 0 → Reach (raisedF chk 2 2) s 3 := fun h e => by subst e; exact .step h (by rw [hw]; decide) e30
  have h0 : Reach (raisedF chk 2 2) s s := .refl (by rw [hw]; exact hs)
  have r0 : Reach (raisedF chk 2 2) s 0 := by
    have : s = 0 ∨ s = 1 ∨ s = 2 ∨ s = 3 := by omega
    rcases this with k | k | k | k
    · have h := h0
      rw [k] at h
      rw [k]; exact h
    · exact n2 (n1 h0 k) rfl
    · exact n2 h0 k
    · exact n2 (n1 (n3 h0 k) rfl) rfl
  have r3 := n0 r0 rfl
  have r1 := n3 r3 rfl
  have r2 := n1 r1 rfl
  have : a = 0 ∨ a = 1 ∨ a = 2 ∨ a = 3 := by omega
  rcases this with rfl | rfl | rfl | rfl
  · exact r0
  · exact r1
  · exact r2
  · exact r3
theorem chk_make (w : World) (ht : Tabs w) : Calls Tryd.prog 7 #[.string ⟨#[226, 150, 161, 10, 194, 183, 226, 150, 136, 10, 226, 150, 136, 194, 183, 10]⟩] w fun e w' => Below w.heap.size w w' ∧ ∃ (p : Int) (a1 : Option Addr) (n1 k1 : Nat) (a2 : Option Addr) (n2 k2 : Nat) (a3 : Option Addr) (n3 k3 : Nat) (a4 : Option Addr) (n4 k4 : Nat) (sh td dn al : Int) (ca : ByteArray),
    e = .returned (.tuple #[.agg #[.string ⟨#[112, 52, 109]⟩, .int .i64 p, .slice a1 n1 k1, .int .i64 sh, .int .i64 td, .slice a2 n2 k2, .slice a3 n3 k3, .bool true, .slice a4 n4 k4, .int .i64 dn, .int .i64 al, .string ca], .agg #[.int .i64 0, .int .i64 0]]) := by
  have h := Make_any w ht chk_ok (lines_ok chk_ok)
  rw [chk_text] at h
  refine h.mono ?_
  rintro e w' ⟨hb, ⟨h24, _⟩ | ⟨_, X, x, Y, hfin, p, th, bi, tr, hg, li, ca, hh, ⟨a1, n1, k1, rfl⟩, ⟨a2, n2, k2, rfl⟩, ⟨a3, n3, k3, rfl⟩, ⟨a4, n4, k4, rfl⟩, rfl⟩⟩
  · rw [chk_tor] at h24; omega
  · refine ⟨hb, p, a1, n1, k1, a2, n2, k2, a3, n3, k3, a4, n4, k4, (shaftsF (raisedF chk 2 2) : Int), (treadF (raisedF chk 2 2) : Int), longF (raisedF chk 2 2).turned true, longF (raisedF chk 2 2) false, ca, ?_⟩
    obtain ⟨rfl, rfl, rfl⟩ := hfin.unique chk_fin
    have hk := chk_kind
    unfold kindC at hk
    have hg1 : hg = true := hh.2 chk_hangs
    rw [hk, chk_name, hg1]
    rfl
set_option maxRecDepth 100000 in
set_option maxHeartbeats 2000000 in
theorem alive_any (w : World) (ht : Tabs w) : Calls Tryd.prog 4 #[] w fun e w' => e = .returned (.bool true) ∧ Below w.heap.size w w' := by
  have HMK := Lib.hid (chk_make w ht)
  go_enter Tryd.func4, Tryd.ntmps4
  go_wp2_with fail
  refine HMK.out.mono ?_
  rintro e w1 ⟨hb, p, a1, n1, k1, a2, n2, k2, a3, n3, k3, a4, n4, k4, sh, td, dn, al, ca, rfl⟩
  have HB := Lib.hid hb
  clear hb HMK
  go_wp2_with fail
  go_ret
  exact ⟨rfl, below_al (below_al HB.out (Nat.le_refl _) _) (Nat.le_refl _) _⟩
end Go.Proofs.YtmmakljmikdooaaDoor
/- The top, plain: a chart drawn several times. -/
namespace Go.Proofs.YtmmakljmikdooaaDoor
set_option linter.unusedVariables false

theorem repL_snoc {α : Type} (r : List α) (i : Nat) : repL (i + 1) r = repL i r ++ r := by
  unfold repL
  rw [List.replicate_succ', List.flatten_append]; simp
/-- so many rows -/
def rowsD (c : Ch) (W H a y : Nat) : List Int := (List.range y).flatMap fun k => repL a (rowC c W (k % H))
theorem rowsD_snoc (c : Ch) (W H a y : Nat) : rowsD c W H a (y + 1) = rowsD c W H a y ++ repL a (rowC c W (y % H)) := by
  unfold rowsD
  rw [List.range_succ, List.flatMap_append]; simp
def drawC (c : Ch) (W H a b : Nat) : Ch := ⟨c.g, ((a * W : Nat) : Int), ((b * H : Nat) : Int), rowsD c W H a (b * H)⟩
theorem rowD_len {c : Ch} {W H : Nat} (hc : OkC c W H) (a k : Nat) : (repL a (rowC c W (k % H))).length = a * W := by
  rw [repL_len, hc.row_len (Nat.mod_lt _ hc.H1)]
theorem rowsD_len {c : Ch} {W H : Nat} (hc : OkC c W H) (a y : Nat) : (rowsD c W H a y).length = y * (a * W) := by
  unfold rowsD
  rw [flat_len (n := a * W) (fun k => rowD_len hc a k), List.length_range]
theorem draw_rep {c : Ch} {W H a b : Nat} (hc : OkC c W H) (ha : 1 ≤ a) (hb : 1 ≤ b) (hw : a * W ≤ 64) (hh : b * H ≤ 64) : RepC c (drawC c W H a b) W H a b where
  ok := hc
  ok' := {
    g := hc.g
    w := rfl
    h := rfl
    W1 := Nat.mul_pos ha hc.W1
    W2 := hw
    H1 := Nat.mul_pos hb hc.H1
    H2 := hh
    len := by
      show (rowsD c W H a (b * H)).length = _
      rw [rowsD_len hc, Nat.mul_comm]
    cell := fun x hx => by
      obtain ⟨k, _, hk⟩ := List.mem_flatMap.1 hx
      unfold repL at hk
      obtain ⟨l, hl, hk⟩ := List.mem_flatten.1 hk
      rw [(List.mem_replicate.1 hl).2] at hk
      exact rowC_mem hc hk }
  a1 := ha
  b1 := hb
  g := rfl
  cell := fun x y hx hy => by
    show (rowsD c W H a (b * H))[y * (a * W) + x]? = _
    unfold rowsD
    rw [flat_get (n := a * W) (fun k => rowD_len hc a k) _ (by simpa using hy) hx]
    simp only [List.getElem_range]
    have hm : y % H < H := Nat.mod_lt _ hc.H1
    have hl := hc.row_len hm
    rw [repL_get _ _ _ (by rw [hl]; exact hx), hl, hc.row_get hm (Nat.mod_lt _ hc.W1)]
end Go.Proofs.YtmmakljmikdooaaDoor
/- The top: what Make tells of two charts. -/
namespace Go.Proofs.YtmmakljmikdooaaDoor
open Go.RowKit
set_option linter.unusedVariables false
set_option linter.unusedSimpArgs false

/-- what is told of a chart, or that it is too great -/
def MadeR (c : Ch) (W H : Nat) (nm : ByteArray) (sh td : Int) (hg : Bool) (dn al : Int) (e : Int) : Prop :=
  (24 < tor W H ∧ e = 4) ∨ (tor W H ≤ 24 ∧ e = 0 ∧ ∃ X x Y, FinP (stepC c W H) X x Y ∧ nm = nameF (kindC c W H X x Y) ∧ sh = (shaftsF (raisedF c W H) : Int) ∧ td = (treadF (raisedF c W H) : Int) ∧ (hg = true ↔ Hangs (raisedF c W H)) ∧ dn = longF (raisedF c W H).turned true ∧ al = longF (raisedF c W H) false)
theorem make_told {c : Ch} {W H : Nat} (w : World) (ht : Tabs w) (hc : OkC c W H) : Calls Tryd.prog 7 #[.string ⟨(printF c W H).toArray⟩] w fun e w' => Below w.heap.size w w' ∧ ∃ (nm : ByteArray) (p : Int) (a1 : Option Addr) (n1 k1 : Nat) (sh td : Int) (a2 : Option Addr) (n2 k2 : Nat) (a3 : Option Addr) (n3 k3 : Nat) (hg : Bool) (a4 : Option Addr) (n4 k4 : Nat) (dn al : Int) (ca : ByteArray) (er : Int),
    e = .returned (.tuple #[.agg #[.string nm, .int .i64 p, .slice a1 n1 k1, .int .i64 sh, .int .i64 td, .slice a2 n2 k2, .slice a3 n3 k3, .bool hg, .slice a4 n4 k4, .int .i64 dn, .int .i64 al, .string ca], .agg #[.int .i64 er, .int .i64 0]]) ∧ MadeR c W H nm sh td hg dn al er := by
  refine (Make_any w ht hc (lines_ok hc)).mono ?_
  rintro e w' ⟨hb, ⟨h24, rfl⟩ | ⟨h24, X, x, Y, hfin, p, th, bi, tr, hg, li, ca, hh, ⟨a1, n1, k1, rfl⟩, ⟨a2, n2, k2, rfl⟩, ⟨a3, n3, k3, rfl⟩, ⟨a4, n4, k4, rfl⟩, rfl⟩⟩
  · exact ⟨hb, ⟨#[]⟩, 0, none, 0, 0, 0, 0, none, 0, 0, none, 0, 0, false, none, 0, 0, 0, 0, ⟨#[]⟩, 4, rfl, .inl ⟨h24, rfl⟩⟩
  · exact ⟨hb, _, p, a1, n1, k1, _, _, a2, n2, k2, a3, n3, k3, hg, a4, n4, k4, _, _, ca, 0, rfl, .inr ⟨h24, rfl, X, x, Y, hfin, rfl, rfl, rfl, hh, rfl, rfl⟩⟩
theorem told_two {c d : Ch} {W H a b : Nat} (h : RepC c d W H a b) {nm nm' : ByteArray} {sh td sh' td' dn al dn' al' e e' : Int} {hg hg' : Bool} (k : MadeR c W H nm sh td hg dn al e) (k' : MadeR d (a * W) (b * H) nm' sh' td' hg' dn' al' e') :
    (e' = 0 ∨ e' = 4) ∧ (e = 0 ∨ e' = 4) ∧ (e' = 0 → e = 0 ∧ nm = nm' ∧ sh = sh' ∧ td = td' ∧ hg = hg' ∧ dn = dn' ∧ al = al') := by
  have ht := h.tor
  rcases k' with ⟨t', rfl⟩ | ⟨t', rfl, X', x', Y', f', rfl, rfl, rfl, g', rfl, rfl⟩
  · exact ⟨.inr rfl, .inr rfl, fun h => by cases h⟩
  rcases k with ⟨t, rfl⟩ | ⟨t, rfl, X, x, Y, f, rfl, rfl, rfl, g, rfl, rfl⟩
  · omega
  refine ⟨.inl rfl, .inl rfl, fun _ => ⟨rfl, ?_, ?_, ?_, ?_, ?_, ?_⟩⟩
  · rw [h.kind f f']
  · rw [h.raised.shafts]
  · rw [h.raised.tread]
  · rw [Bool.eq_iff_iff, g, g', h.raised.hangs]
  · rw [h.raised.turned.long]
  · rw [h.raised.long]
end Go.Proofs.YtmmakljmikdooaaDoor
