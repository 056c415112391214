/- Texts of the seat, put together: Chart, Plane, Lib2, Sign, Truth, Group, Cloth. -/
import Derived.Test.YtmmakljmikdooaaDoorLib
/- Chapter 2, plain: charts. -/
namespace Go.Proofs.YtmmakljmikdooaaDoor
set_option linter.unusedVariables false

structure Ch where
  g : Int
  w : Int
  h : Int
  cs : List Int
def badC (x : Int) : Bool := decide (x < 0 ∨ 62 ≤ x)
def wrongC (c : Ch) : Int :=
  if c.g ≠ 4 ∧ c.g ≠ 6 then 1 else if c.w < 1 ∨ 64 < c.w ∨ c.h < 1 ∨ 64 < c.h then 3 else if (c.cs.length : Int) ≠ c.w * c.h then 8 else if c.cs.any badC = true then 3 else 0
/-- a chart that is right -/
structure OkC (c : Ch) (W H : Nat) : Prop where
  g : c.g = 4 ∨ c.g = 6
  w : c.w = (W : Int)
  h : c.h = (H : Int)
  W1 : 1 ≤ W
  W2 : W ≤ 64
  H1 : 1 ≤ H
  H2 : H ≤ 64
  len : c.cs.length = W * H
  cell : ∀ x ∈ c.cs, 0 ≤ x ∧ x < 62
theorem okC_of {c : Ch} (h : wrongC c = 0) : ∃ W H, OkC c W H := by
  unfold wrongC at h
  split at h
  · cases h
  next h1 =>
  split at h
  · cases h
  next h2 =>
  split at h
  · cases h
  next h3 =>
  split at h
  · cases h
  next h4 =>
  refine ⟨c.w.toNat, c.h.toNat, by omega, by omega, by omega, by omega, by omega, by omega, by omega, ?_, fun x hx => ?_⟩
  · have e1 : ((c.w.toNat * c.h.toNat : Nat) : Int) = c.w * c.h := by
      rw [Int.natCast_mul, Int.toNat_of_nonneg (by omega), Int.toNat_of_nonneg (by omega)]
    have h3' : (c.cs.length : Int) = c.w * c.h := by
      rcases Int.decEq (c.cs.length : Int) (c.w * c.h) with k | k
      · exact absurd k h3
      · exact k
    omega
  · have hb : ¬ badC x = true := fun k => h4 (List.any_eq_true.2 ⟨x, hx, k⟩)
    unfold badC at hb
    rw [decide_eq_true_iff] at hb
    omega
theorem wrongC_ok {c : Ch} {W H : Nat} (h : OkC c W H) : wrongC c = 0 := by
  unfold wrongC
  have e : ((W * H : Nat) : Int) = c.w * c.h := by rw [h.w, h.h, Int.natCast_mul]
  have := h.g
  have hw := h.w
  have hh := h.h
  have := h.W1
  have := h.W2
  have := h.H1
  have := h.H2
  have hl := h.len
  rw [if_neg (by omega), if_neg (by omega), if_neg (by omega), if_neg]
  intro k
  obtain ⟨x, hx, hb⟩ := List.any_eq_true.1 k
  have := h.cell x hx
  unfold badC at hb
  rw [decide_eq_true_iff] at hb
  omega
end Go.Proofs.YtmmakljmikdooaaDoor
/- Chapter 1, plain: points of a grid. -/
namespace Go.Proofs.YtmmakljmikdooaaDoor
set_option linter.unusedVariables false

structure Pt where
  x : Int
  y : Int
def Pt.val (p : Pt) : Value := .agg #[.int .i64 p.x, .int .i64 p.y]
def Pt.le (p : Pt) (B : Int) : Prop := -B ≤ p.x ∧ p.x ≤ B ∧ -B ≤ p.y ∧ p.y ≤ B
theorem Pt.ext' {p q : Pt} (h : p.x = q.x) (k : p.y = q.y) : p = q := by cases p; cases q; simp_all
def tm (g : Int) (a b : Pt) : Pt := ⟨a.x * b.x - a.y * b.y, if g = 6 then a.x * b.y + a.y * b.x + a.y * b.y else a.x * b.y + a.y * b.x⟩
def mir (g : Int) (a : Pt) : Pt := if g = 6 then ⟨a.x + a.y, -a.y⟩ else ⟨a.x, -a.y⟩
/-- a turn -/
def rt (g : Int) (a : Pt) : Pt := ⟨-a.y, if g = 6 then a.x + a.y else a.x⟩
def rot (g : Int) : Nat → Pt → Pt
  | 0, a => a
  | n + 1, a => rot g n (rt g a)
theorem tm_one (g : Int) (a : Pt) : tm g a ⟨0, 1⟩ = rt g a := by
  unfold tm rt
  split <;> simp
theorem rot_succ (g : Int) : ∀ (n : Nat) (a : Pt), rot g (n + 1) a = rt g (rot g n a)
  | 0, a => rfl
  | n + 1, a => by
    show rot g (n + 1) (rt g a) = _
    rw [rot_succ g n (rt g a)]; rfl
/-- bounds of a point and of its turns -/
def Bnd (g : Int) (a : Pt) (B : Int) : Prop := a.le B ∧ (g = 6 → -B ≤ a.x + a.y ∧ a.x + a.y ≤ B)
theorem Bnd.rt {g : Int} {a : Pt} {B : Int} (h : Bnd g a B) : Bnd g (rt g a) B := by
  obtain ⟨⟨h1, h2, h3, h4⟩, h5⟩ := h
  unfold Bnd Pt.le Go.Proofs.YtmmakljmikdooaaDoor.rt
  by_cases hg : g = 6
  · have := h5 hg
    simp only [hg, if_true, true_implies]
    omega
  · simp only [hg, if_false, false_implies, and_true]
    omega
theorem Bnd.rot {g : Int} {B : Int} : ∀ (n : Nat) {a : Pt}, Bnd g a B → Bnd g (rot g n a) B
  | 0, a, h => h
  | n + 1, a, h => Bnd.rot n (a := Go.Proofs.YtmmakljmikdooaaDoor.rt g a) h.rt
theorem Bnd.mir {g : Int} {a : Pt} {B : Int} (h : Bnd g a B) : Bnd g (mir g a) B := by
  obtain ⟨⟨h1, h2, h3, h4⟩, h5⟩ := h
  unfold Bnd Pt.le Go.Proofs.YtmmakljmikdooaaDoor.mir
  by_cases hg : g = 6
  · have := h5 hg
    simp only [hg, if_true, true_implies]
    omega
  · simp only [hg, if_false, false_implies, and_true]
    omega
theorem Bnd.of {g : Int} {a : Pt} {B : Int} (h : a.le B) : Bnd g a (2 * B) := by
  unfold Bnd
  unfold Pt.le at *
  exact ⟨by omega, fun _ => by omega⟩
/-- moves -/
structure Mv where
  t : Nat
  f : Bool
  b : Pt
def Mv.val (m : Mv) : Value := .agg #[.int .i64 (m.t : Int), .bool m.f, .int .i64 m.b.x, .int .i64 m.b.y]
/-- without By -/
def lin (g : Int) (t : Nat) (f : Bool) (z : Pt) : Pt := rot g t (if f = true then mir g z else z)
def app (g : Int) (m : Mv) (z : Pt) : Pt := ⟨(lin g m.t m.f z).x + m.b.x, (lin g m.t m.f z).y + m.b.y⟩
theorem Bnd.lin {g : Int} {a : Pt} {B : Int} (t : Nat) (f : Bool) (h : Bnd g a B) : Bnd g (lin g t f a) B := by
  unfold Go.Proofs.YtmmakljmikdooaaDoor.lin
  refine Bnd.rot t ?_
  split
  · exact h.mir
  · exact h
def both (g : Int) (f h : Mv) : Mv := ⟨((if f.f = true then (f.t : Int) - h.t else (f.t : Int) + h.t) % g).toNat, f.f != h.f, app g f h.b⟩
def nrm (g : Int) (a : Pt) : Int := (tm g a (mir g a)).x
end Go.Proofs.YtmmakljmikdooaaDoor
/- Slices of structs: every element's cells. -/
namespace Go.Proofs.YtmmakljmikdooaaDoor
open Go.RowKit
set_option linter.unusedVariables false

theorem flat_get {α β : Type} {f : α → List β} {n : Nat} (hf : ∀ a, (f a).length = n) (xs : List α) {k j : Nat} (hk : k < xs.length) (hj : j < n) : (xs.flatMap f)[k * n + j]? = (f xs[k])[j]? := by
  induction xs generalizing k with
  | nil => simp at hk
  | cons x xs ih =>
    rw [List.flatMap_cons]
    cases k with
    | zero => rw [Nat.zero_mul, Nat.zero_add, List.getElem?_append_left (by rw [hf]; exact hj)]; rfl
    | succ k =>
      have e : (k + 1) * n + j = n + (k * n + j) := by rw [Nat.add_mul, Nat.one_mul]; omega
      rw [e, List.getElem?_append_right (by rw [hf]; omega), hf, Nat.add_sub_cancel_left, ih (by simpa using hk)]
      rfl
theorem flat_len {α β : Type} {f : α → List β} {n : Nat} (hf : ∀ a, (f a).length = n) (xs : List α) : (xs.flatMap f).length = xs.length * n := by
  induction xs with
  | nil => simp
  | cons x xs ih => rw [List.flatMap_cons, List.length_append, ih, hf, List.length_cons, Nat.add_mul]; omega

/-- a slice of structs of n cells reads as xs, in blocks of S -/
def Els {α : Type} (f : α → List Value) (n : Nat) (w : World) (S : Nat → Prop) (v : Value) (xs : List α) : Prop :=
  ∃ A c, v = .slice A xs.length c ∧ xs.length ≤ c ∧ c ≤ maxLen ∧ Row w S n A xs.length (xs.flatMap f)
section
variable {α : Type} {f : α → List Value} {n : Nat} {w w' : World} {S T : Nat → Prop} {v : Value} {xs : List α}
theorem Els.same (h : Els f n w S v xs) (k : Same S w w') : Els f n w' S v xs := by
  obtain ⟨A, c, e, h1, h2, h3⟩ := h
  exact ⟨A, c, e, h1, h2, h3.same k⟩
theorem Els.mono (h : Els f n w S v xs) (k : ∀ i, S i → T i) : Els f n w T v xs := by
  obtain ⟨A, c, e, h1, h2, h3⟩ := h
  exact ⟨A, c, e, h1, h2, h3.mono k⟩
theorem els_at {A : Option Addr} (hf : ∀ a, (f a).length = n) (h : Row w S n A xs.length (xs.flatMap f)) (hn : 0 < n) {k : Nat} (hk : k < xs.length) :
    ∃ b o, A = some ⟨b, o, none⟩ ∧ S b ∧ ∀ j u, (f xs[k])[j]? = some u → w.cell? ⟨b, o + (k * n + j), none⟩ = some u := by
  obtain ⟨b, o, e, hs, hc⟩ := h.at_ (by omega)
  refine ⟨b, o, e, hs, fun j u hu => hc _ _ ?_⟩
  have hj : j < n := by
    have := (List.getElem?_eq_some_iff.1 hu).1
    rwa [hf] at this
  rw [flat_get hf xs hk hj, hu]
end
end Go.Proofs.YtmmakljmikdooaaDoor
/- Chapter 2, plain: signs. -/
namespace Go.Proofs.YtmmakljmikdooaaDoor
set_option linter.unusedVariables false

def skipF (n : Nat) : Nat := if 17 ≤ n then n + 1 else n
def signF (c : Nat) : Nat := if c = 0 then 183 else if c = 1 then 9608 else if c < 12 then 46 + c else if c < 36 then 945 + skipF (c - 12) else 61 + c
/-- the colour whose sign is r -/
def colourF (r : Int) : Option Nat := (List.range 62).find? fun c => ((signF c : Nat) : Int) == r
theorem signF_inj {c d : Nat} (hc : c < 62) (hd : d < 62) (h : signF c = signF d) : c = d := by
  unfold signF skipF at h
  repeat' split at h
  all_goals omega
theorem signF_ne {c : Nat} (hc : c < 62) : signF c ≠ 10 := by
  unfold signF skipF
  repeat' split
  all_goals omega
theorem signF_lt (c : Nat) (hc : c < 62) : 0 < signF c ∧ signF c < 10000 := by
  unfold signF skipF
  repeat' split
  all_goals omega
theorem colourF_sign {c : Nat} (hc : c < 62) : colourF (signF c : Nat) = some c := by
  unfold colourF
  rw [List.find?_eq_some_iff_append]
  refine ⟨by simp, List.range c, (List.range' (c + 1) (62 - (c + 1))), ?_, ?_⟩
  · have e : List.range 62 = List.range' 0 62 := by decide
    have e2 : List.range c = List.range' 0 c := List.range_eq_range'
    have e3 : c :: List.range' (c + 1) (62 - (c + 1)) = List.range' (0 + c) (62 - c) := by
      rw [Nat.zero_add, show 62 - c = (62 - (c + 1)) + 1 by omega]; rfl
    rw [e, e2, e3, List.range'_append_1, show c + (62 - c) = 62 by omega]
  · intro a ha
    have : a < c := List.mem_range.1 ha
    simp only [Bool.not_eq_true', beq_eq_false_iff_ne, ne_eq]
    intro h
    have := signF_inj (c := a) (d := c) (by omega) hc (by omega)
    omega
end Go.Proofs.YtmmakljmikdooaaDoor
/- Chapter 5, plain: truths in rows. -/
namespace Go.Proofs.YtmmakljmikdooaaDoor
set_option linter.unusedVariables false

structure Tr where
  w : Nat
  h : Nat
  bs : List Bool
structure OkT (m : Tr) : Prop where
  W1 : 1 ≤ m.w
  W2 : m.w ≤ 64
  H1 : 1 ≤ m.h
  H2 : m.h ≤ 64
  len : m.bs.length = m.w * m.h
/-- row y -/
def Tr.row (m : Tr) (y : Nat) : List Bool := (m.bs.drop (y * m.w)).take m.w
theorem OkT.at_ {m : Tr} (h : OkT m) {y : Nat} (hy : y < m.h) : (y + 1) * m.w ≤ m.bs.length := by
  rw [h.len, Nat.mul_comm m.w m.h]
  exact Nat.mul_le_mul_right _ hy
theorem OkT.row_len {m : Tr} (h : OkT m) {y : Nat} (hy : y < m.h) : (m.row y).length = m.w := by
  have := h.at_ hy
  rw [Nat.succ_mul] at this
  unfold Tr.row
  rw [List.length_take, List.length_drop]
  omega
theorem OkT.row_get {m : Tr} (h : OkT m) {y x : Nat} (hy : y < m.h) (hx : x < m.w) : (m.row y)[x]? = m.bs[y * m.w + x]? := by
  unfold Tr.row
  rw [List.getElem?_take_of_lt hx, List.getElem?_drop]
/-- a slice of bools reads as xs, in blocks of S -/
def Bls (w : World) (S : Nat → Prop) (v : Value) (xs : List Bool) : Prop :=
  ∃ A c, v = .slice A xs.length c ∧ xs.length ≤ c ∧ c ≤ maxLen ∧ Row w S 1 A xs.length (xs.map Value.bool)
theorem Bls.same {w w' : World} {S : Nat → Prop} {v : Value} {xs : List Bool} (h : Bls w S v xs) (k : Same S w w') : Bls w' S v xs := by
  obtain ⟨A, c, e, h1, h2, h3⟩ := h
  exact ⟨A, c, e, h1, h2, h3.same k⟩
theorem Bls.mono {w : World} {S T : Nat → Prop} {v : Value} {xs : List Bool} (h : Bls w S v xs) (k : ∀ i, S i → T i) : Bls w T v xs := by
  obtain ⟨A, c, e, h1, h2, h3⟩ := h
  exact ⟨A, c, e, h1, h2, h3.mono k⟩
theorem Bls.of_own {w : World} {base : Nat} {e : TypeId} {v : Value} {n : Nat} {xs : List Bool} (h : w.ownsRow base e 1 v n (xs.map Value.bool)) :
    Bls w (fun b => base ≤ b ∧ b < w.heap.size) v xs := by
  obtain ⟨A, c, rfl, h1, h2⟩ := own_form h
  have hl : xs.length = n := by have := h.1; simpa using this
  subst hl
  exact ⟨A, c, rfl, h1, h2, .of_own h⟩
/-- cell k of a slice of bools -/
theorem bls_cell {w : World} {S : Nat → Prop} {A : Option Addr} {xs : List Bool} (h : Row w S 1 A xs.length (xs.map Value.bool)) {k : Nat} (hk : k < xs.length) :
    ∃ b o, A = some ⟨b, o, none⟩ ∧ S b ∧ w.cell? ⟨b, o + k, none⟩ = some (.bool xs[k]) := by
  obtain ⟨b, o, u, e, hs, hu, hc⟩ := h.cell1 hk
  simp [hk] at hu
  subst hu
  exact ⟨b, o, e, hs, hc⟩
/-- v reads as truths -/
def TrR (w : World) (S : Nat → Prop) (v : Value) (m : Tr) : Prop := ∃ bv, v = .agg #[.int .i64 (m.w : Int), .int .i64 (m.h : Int), bv] ∧ Bls w S bv m.bs
theorem TrR.same {w w' : World} {S : Nat → Prop} {v : Value} {m : Tr} (h : TrR w S v m) (k : Same S w w') : TrR w' S v m := by
  obtain ⟨bv, e, hi⟩ := h; exact ⟨bv, e, hi.same k⟩
theorem TrR.mono {w : World} {S T : Nat → Prop} {v : Value} {m : Tr} (h : TrR w S v m) (k : ∀ i, S i → T i) : TrR w T v m := by
  obtain ⟨bv, e, hi⟩ := h; exact ⟨bv, e, hi.mono k⟩
theorem TrR.form {w : World} {S : Nat → Prop} {v : Value} {m : Tr} (h : TrR w S v m) : ∃ A c, v = .agg #[.int .i64 (m.w : Int), .int .i64 (m.h : Int), .slice A m.bs.length c] ∧ m.bs.length ≤ c ∧ c ≤ maxLen ∧ Row w S 1 A m.bs.length (m.bs.map Value.bool) := by
  obtain ⟨bv, rfl, A, c, rfl, h1, h2, h3⟩ := h
  exact ⟨A, c, rfl, h1, h2, h3⟩
end Go.Proofs.YtmmakljmikdooaaDoor
/- Chapter 3, plain: patterns on their torus. -/
namespace Go.Proofs.YtmmakljmikdooaaDoor
set_option linter.unusedVariables false

/-- the place of a point -/
def pl (n : Nat) (z : Pt) : Nat := (z.y % n).toNat * n + (z.x % n).toNat
theorem pl_lt {n : Nat} (h : 1 ≤ n) (z : Pt) : pl n z < n * n := by
  unfold pl
  have h1 : (z.y % (n : Int)).toNat < n := by have := Int.emod_lt_of_pos z.y (show (0 : Int) < n by omega); have := Int.emod_nonneg z.y (show (n : Int) ≠ 0 by omega); omega
  have h2 : (z.x % (n : Int)).toNat < n := by have := Int.emod_lt_of_pos z.x (show (0 : Int) < n by omega); have := Int.emod_nonneg z.x (show (n : Int) ≠ 0 by omega); omega
  have h3 : (z.y % (n : Int)).toNat * n ≤ (n - 1) * n := Nat.mul_le_mul_right _ (by omega)
  have h4 : (n - 1) * n + n = n * n := by
    conv => rhs; rw [show n = (n - 1) + 1 by omega]
    rw [Nat.add_mul, Nat.one_mul, show n - 1 + 1 = n by omega]
  omega
/-- what a torus' place stands for -/
def pt (n p : Nat) : Pt := ⟨((p % n : Nat) : Int), ((p / n : Nat) : Int)⟩
theorem pl_pt {n p : Nat} (h : p < n * n) : pl n (pt n p) = p := by
  have hn : 0 < n := by
    rcases Nat.eq_zero_or_pos n with e | e
    · subst e; omega
    · exact e
  have h1 : p / n < n := Nat.div_lt_of_lt_mul h
  have h2 : p % n < n := Nat.mod_lt _ hn
  unfold pl pt
  dsimp only
  rw [Int.emod_eq_of_lt (Int.natCast_nonneg _) (Int.ofNat_lt.2 h1), Int.emod_eq_of_lt (Int.natCast_nonneg _) (Int.ofNat_lt.2 h2), Int.toNat_natCast, Int.toNat_natCast, Nat.mul_comm]
  exact Nat.div_add_mod p n
def addP (a b : Pt) : Pt := ⟨a.x + b.x, a.y + b.y⟩
/-- a map of the places, moved by so much, keeps the colours -/
def keepsF (n : Nat) (f : Nat → Int) (tf : Nat → Nat) (b : Pt) : Prop := ∀ p, p < n * n → f p = f (pl n (addP (pt n (tf p)) b))
instance (n : Nat) (f : Nat → Int) (tf : Nat → Nat) (b : Pt) : Decidable (keepsF n f tf b) := Nat.decidableBallLT _ _
def imgF (g : Int) (n t : Nat) (fl : Bool) (p : Nat) : Nat := pl n (lin g t fl (pt n p))
end Go.Proofs.YtmmakljmikdooaaDoor
/- Chapter 7, plain: what lies above what. -/
namespace Go.Proofs.YtmmakljmikdooaaDoor
open Go.RowKit
set_option linter.unusedVariables false

def aboveF (m : Tr) (a b : Nat) : Bool :=
  if a < m.w ∧ m.w ≤ b then m.bs.getD ((b - m.w) * m.w + a) false else if m.w ≤ a ∧ b < m.w then !(m.bs.getD ((a - m.w) * m.w + b) false) else false
/-- a is s, or above one that is reached -/
inductive Reach (m : Tr) (s : Nat) : Nat → Prop
  | refl : s < m.w + m.h → Reach m s s
  | step {a b : Nat} : Reach m s b → a < m.w + m.h → aboveF m a b = true → Reach m s a
theorem Reach.lt {m : Tr} {s a : Nat} (h : Reach m s a) : a < m.w + m.h := by cases h <;> assumption
theorem Reach.trans {m : Tr} {s t a : Nat} (h : Reach m s t) (k : Reach m t a) : Reach m s a := by
  induction k with
  | refl _ => exact h
  | step _ ha hab ih => exact ih.step ha hab
/-- a cloth hangs together -/
def Hangs (m : Tr) : Prop := ∀ s a, s < m.w + m.h → a < m.w + m.h → Reach m s a

/-- what over's outer loop keeps -/
structure Ov (m : Tr) (s : Nat) (ins : List Bool) (todo : List Nat) : Prop where
  len : ins.length = m.w + m.h
  sound : ∀ a, ins[a]? = some true → Reach m s a
  start : ins[s]? = some true
  td : ∀ x ∈ todo, ins[x]? = some true
  closed : ∀ b a, ins[b]? = some true → b ∉ todo → a < m.w + m.h → aboveF m a b = true → ins[a]? = some true
/-- what the inner loop keeps, b being looked at, up to i -/
structure OvB (m : Tr) (s b i : Nat) (ins : List Bool) (todo : List Nat) : Prop where
  len : ins.length = m.w + m.h
  sound : ∀ a, ins[a]? = some true → Reach m s a
  start : ins[s]? = some true
  td : ∀ x ∈ todo, ins[x]? = some true
  here : ins[b]? = some true
  done : ∀ a, a < i → aboveF m a b = true → ins[a]? = some true
  closed : ∀ c a, ins[c]? = some true → c ∉ todo → c ≠ b → a < m.w + m.h → aboveF m a c = true → ins[a]? = some true
theorem Ov.pop {m : Tr} {s b : Nat} {ins : List Bool} {todo : List Nat} (h : Ov m s ins (todo ++ [b])) : OvB m s b 0 ins todo :=
  ⟨h.len, h.sound, h.start, fun x hx => h.td x (by simp [hx]), h.td b (by simp), fun _ k => absurd k (Nat.not_lt_zero _), fun c a hc hn hb ha hab => h.closed c a hc (by simp [hn, hb]) ha hab⟩
theorem OvB.stay {m : Tr} {s b i : Nat} {ins : List Bool} {todo : List Nat} (h : OvB m s b i ins todo) (hi : ins[i]? = some true ∨ aboveF m i b = false) : OvB m s b (i + 1) ins todo :=
  ⟨h.len, h.sound, h.start, h.td, h.here, (fun a ha hab => by
    rcases Nat.lt_or_ge a i with k | k
    · exact h.done a k hab
    · obtain rfl : a = i := by omega
      rcases hi with hi | hi
      · exact hi
      · rw [hi] at hab; cases hab), h.closed⟩
theorem set_true {ins : List Bool} {i a : Nat} (hi : i < ins.length) (h : ins[a]? = some true) : (ins.set i true)[a]? = some true := by
  rw [List.getElem?_set]
  split
  · simp_all
  · exact h
theorem OvB.push {m : Tr} {s b i : Nat} {ins : List Bool} {todo : List Nat} (h : OvB m s b i ins todo) (hi : i < m.w + m.h) (hab : aboveF m i b = true) : OvB m s b (i + 1) (ins.set i true) (todo ++ [i]) := by
  have hl := h.len
  have hi' : i < ins.length := by omega
  have hnew : (ins.set i true)[i]? = some true := by rw [List.getElem?_set]; simp [hi']
  have old : ∀ {a}, (ins.set i true)[a]? = some true → a = i ∨ ins[a]? = some true := fun {a} ha => by
    rw [List.getElem?_set] at ha
    split at ha
    · exact .inl (by omega)
    · exact .inr ha
  refine ⟨by rw [List.length_set]; exact hl, fun a ha => ?_, set_true hi' h.start, fun x hx => ?_, set_true hi' h.here, fun a ha hab' => ?_, fun c a hc hn hb ha hac => ?_⟩
  · rcases old ha with rfl | ha
    · exact (h.sound b h.here).step hi hab
    · exact h.sound a ha
  · simp at hx
    rcases hx with hx | rfl
    · exact set_true hi' (h.td x hx)
    · exact hnew
  · rcases Nat.lt_or_ge a i with k | k
    · exact set_true hi' (h.done a k hab')
    · obtain rfl : a = i := by omega
      exact hnew
  · simp at hn
    rcases old hc with rfl | hc
    · exact absurd rfl hn.2
    · exact set_true hi' (h.closed c a hc hn.1 hb ha hac)
theorem OvB.fin {m : Tr} {s b : Nat} {ins : List Bool} {todo : List Nat} (h : OvB m s b (m.w + m.h) ins todo) : Ov m s ins todo :=
  ⟨h.len, h.sound, h.start, h.td, fun c a hc hn ha hac => by
    by_cases hb : c = b
    · subst hb; exact h.done a ha hac
    · exact h.closed c a hc hn hb ha hac⟩
theorem Ov.all {m : Tr} {s : Nat} {ins : List Bool} (h : Ov m s ins []) (a : Nat) : ins[a]? = some true ↔ Reach m s a := by
  refine ⟨h.sound a, fun hr => ?_⟩
  induction hr with
  | refl _ => exact h.start
  | step _ ha hab ih => exact h.closed _ _ ih (by simp) ha hab
theorem Ov.new {m : Tr} {s : Nat} (hs : s < m.w + m.h) : Ov m s ((List.replicate (m.w + m.h) false).set s true) [s] := by
  have hl : s < (List.replicate (m.w + m.h) false).length := by simpa using hs
  have hn : ((List.replicate (m.w + m.h) false).set s true)[s]? = some true := by rw [List.getElem?_set]; simp [hs]
  have only : ∀ {a}, ((List.replicate (m.w + m.h) false).set s true)[a]? = some true → a = s := fun {a} ha => by
    rw [List.getElem?_set] at ha
    split at ha
    · omega
    · rw [List.getElem?_replicate] at ha
      split at ha <;> simp at ha
  refine ⟨by simp, fun a ha => ?_, hn, fun x hx => ?_, fun b a hb hnb => ?_⟩
  · rw [only ha]; exact .refl hs
  · simp at hx; subst hx; exact hn
  · exact absurd (only hb) (by simpa using hnb)
/-- how many are not reached yet -/
def left (ins : List Bool) : Nat := ins.count false
theorem left_set {ins : List Bool} {i : Nat} (h : ins[i]? = some false) : left (ins.set i true) + 1 = left ins := by
  obtain ⟨hi, e⟩ := List.getElem?_eq_some_iff.1 h
  unfold left
  rw [List.count_set hi, e]
  have : 0 < ins.count false := List.count_pos_iff.2 (by rw [← e]; exact List.getElem_mem hi)
  simp
  omega
/-- the places that hold true -/
def trues (ins : List Bool) : List Nat := (List.range ins.length).filter fun i => ins.getD i false
theorem trues_take {ins : List Bool} (n : Nat) : (List.range (n + 1)).filter (fun i => ins.getD i false) = if ins.getD n false = true then (List.range n).filter (fun i => ins.getD i false) ++ [n] else (List.range n).filter (fun i => ins.getD i false) := by
  rw [List.range_succ, List.filter_append]
  cases h : ins.getD n false
  · rw [if_neg (by simp)]
    simp only [List.filter_cons, List.filter_nil, h]
    simp
  · rw [if_pos rfl]
    simp only [List.filter_cons, List.filter_nil, h]
    simp
end Go.Proofs.YtmmakljmikdooaaDoor
