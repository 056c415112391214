import Derived.Test.YtmmakljmikdooaaDoorTw10
/- Chapter 3, plain: what keeps a pattern keeps it everywhere. -/
namespace Go.Proofs.YtmmakljmikdooaaDoor
set_option linter.unusedVariables false

/-- the colour at a point of the endless pattern -/
def colP (W H : Nat) (cs : List Int) (z : Pt) : Int := cs.getD ((z.y % H).toNat * W + (z.x % W).toNat) 0
def sc (n : Int) (k : Pt) : Pt := ⟨n * k.x, n * k.y⟩
def KeepP (W H : Nat) (cs : List Int) (g : Int) (t : Nat) (fl : Bool) (b : Pt) : Prop := ∀ z, colP W H cs z = colP W H cs (addP (lin g t fl z) b)
theorem mir_add (g : Int) (a b : Pt) : mir g (addP a b) = addP (mir g a) (mir g b) := by
  unfold mir addP
  split <;> (dsimp only; congr 1 <;> omega)
theorem rt_add (g : Int) (a b : Pt) : rt g (addP a b) = addP (rt g a) (rt g b) := by
  unfold rt addP
  split <;> (dsimp only; congr 1 <;> omega)
theorem rot_add (g : Int) : ∀ (n : Nat) (a b : Pt), rot g n (addP a b) = addP (rot g n a) (rot g n b)
  | 0, _, _ => rfl
  | n + 1, a, b => by
    show rot g n (rt g (addP a b)) = addP (rot g n (rt g a)) (rot g n (rt g b))
    rw [rt_add, rot_add g n]
theorem lin_add (g : Int) (t : Nat) (fl : Bool) (a b : Pt) : lin g t fl (addP a b) = addP (lin g t fl a) (lin g t fl b) := by
  unfold lin
  cases fl
  · exact rot_add g t a b
  · simp only [if_true]
    rw [mir_add, rot_add]
theorem mir_sc (g n : Int) (a : Pt) : mir g (sc n a) = sc n (mir g a) := by
  unfold mir sc
  split <;> (dsimp only; rw [Int.mul_neg])
  rw [Int.mul_add]
theorem rt_sc (g n : Int) (a : Pt) : rt g (sc n a) = sc n (rt g a) := by
  unfold rt sc
  split <;> (dsimp only; rw [Int.mul_neg])
  rw [Int.mul_add]
theorem rot_sc (g n : Int) : ∀ (k : Nat) (a : Pt), rot g k (sc n a) = sc n (rot g k a)
  | 0, _ => rfl
  | k + 1, a => by
    show rot g k (rt g (sc n a)) = sc n (rot g k (rt g a))
    rw [rt_sc, rot_sc g n k]
theorem lin_sc (g : Int) (t : Nat) (fl : Bool) (n : Int) (a : Pt) : lin g t fl (sc n a) = sc n (lin g t fl a) := by
  unfold lin
  cases fl
  · exact rot_sc g n t a
  · simp only [if_true]
    rw [mir_sc, rot_sc]
section
variable {W H n : Nat} {cs : List Int}
theorem col_per (hW : W ∣ n) (hH : H ∣ n) (z k : Pt) : colP W H cs (addP z (sc n k)) = colP W H cs z := by
  obtain ⟨p, rfl⟩ := hW
  obtain ⟨q, hq⟩ := hH
  unfold colP addP sc
  dsimp only
  have e1 : (z.x + ((W * p : Nat) : Int) * k.x) % (W : Int) = z.x % W := by
    rw [Int.natCast_mul, Int.mul_assoc, Int.add_mul_emod_self_left]
  have e2 : (z.y + ((W * p : Nat) : Int) * k.y) % (H : Int) = z.y % H := by
    rw [hq, Int.natCast_mul, Int.mul_assoc, Int.add_mul_emod_self_left]
  rw [e1, e2]
theorem pt_pl (hn : 1 ≤ n) (z : Pt) : pt n (pl n z) = ⟨z.x % n, z.y % n⟩ := by
  have hz : (n : Int) ≠ 0 := by omega
  have h1 := Int.emod_nonneg z.x hz
  have h2 := Int.emod_lt_of_pos z.x (show (0 : Int) < n by omega)
  have h3 := Int.emod_nonneg z.y hz
  unfold pt pl
  have hx : (z.x % (n : Int)).toNat < n := by omega
  have e1 : ((z.y % (n : Int)).toNat * n + (z.x % (n : Int)).toNat) % n = (z.x % (n : Int)).toNat := by rw [Nat.add_comm, Nat.add_mul_mod_self_right, Nat.mod_eq_of_lt hx]
  have e2 : ((z.y % (n : Int)).toNat * n + (z.x % (n : Int)).toNat) / n = (z.y % (n : Int)).toNat := by rw [Nat.add_comm, Nat.add_mul_div_right _ _ (by omega), Nat.div_eq_of_lt hx, Nat.zero_add]
  rw [e1, e2]
  congr 1 <;> omega
/-- a point is its place and so many times round -/
theorem pt_round (hn : 1 ≤ n) (z : Pt) : ∃ k : Pt, z = addP (pt n (pl n z)) (sc n k) := by
  refine ⟨⟨z.x / n, z.y / n⟩, ?_⟩
  rw [pt_pl hn]
  unfold addP sc
  dsimp only
  have h1 := Int.emod_add_mul_ediv z.x n
  have h2 := Int.emod_add_mul_ediv z.y n
  rw [h1, h2]
theorem lay_col (W H : Nat) (cs : List Int) (n p : Nat) : layF W H cs n p = colP W H cs (pt n p) := by
  unfold layF colP pt
  dsimp only
  congr 1
theorem lay_pl (hn : 1 ≤ n) (hW : W ∣ n) (hH : H ∣ n) (z : Pt) : layF W H cs n (pl n z) = colP W H cs z := by
  rw [lay_col]
  obtain ⟨k, hk⟩ := pt_round hn z
  conv => rhs; rw [hk]
  exact (col_per hW hH _ k).symm
theorem addP_swap (a b c : Pt) : addP (addP a b) c = addP (addP a c) b := by unfold addP; dsimp only; congr 1 <;> omega
theorem keeps_iff (hn : 1 ≤ n) (hW : W ∣ n) (hH : H ∣ n) (g : Int) (t : Nat) (fl : Bool) (b : Pt) : keepsF n (layF W H cs n) (imgF g n t fl) b ↔ KeepP W H cs g t fl b := by
  have key : ∀ p, layF W H cs n (pl n (addP (pt n (imgF g n t fl p)) b)) = colP W H cs (addP (lin g t fl (pt n p)) b) := fun p => by
    rw [lay_pl hn hW hH]
    unfold imgF
    obtain ⟨k, hk⟩ := pt_round hn (lin g t fl (pt n p))
    conv => rhs; rw [hk, addP_swap]
    exact (col_per hW hH _ k).symm
  constructor
  · intro h z
    obtain ⟨k, hk⟩ := pt_round hn z
    have h1 := h (pl n z) (pl_lt hn z)
    rw [key, lay_col] at h1
    rw [hk, col_per hW hH, h1, lin_add, lin_sc, addP_swap, col_per hW hH]
  · intro h p hp
    rw [key, lay_col]
    exact h _
end
theorem tor_one {c : Ch} {W H : Nat} (h : OkC c W H) : 1 ≤ tor W H := by
  rw [tor_lcm]
  exact Nat.lcm_pos h.W1 h.H1
theorem tor_dvd (W H : Nat) : W ∣ tor W H ∧ H ∣ tor W H := by
  rw [tor_lcm]
  exact ⟨Nat.dvd_lcm_left _ _, Nat.dvd_lcm_right _ _⟩
/-- the steps that keep a pattern -/
def StepP (W H : Nat) (cs : List Int) (b : Pt) : Prop := ∀ z, colP W H cs z = colP W H cs (addP z b)
theorem step_iff {c : Ch} {W H : Nat} (h : OkC c W H) (b : Pt) : stepC c W H b ↔ StepP W H c.cs b := by
  unfold stepC
  rw [keeps_iff (tor_one h) (tor_dvd W H).1 (tor_dvd W H).2]
  rfl
theorem FinP.congr {K K' : Pt → Prop} {X x Y : Int} (h : FinP K X x Y) (k : ∀ b, K b ↔ K' b) : FinP K' X x Y :=
  ⟨h.X1, (k _).1 h.kX, fun j h1 h2 h3 => h.nX j h1 h2 ((k _).2 h3), h.Y1, h.x0, h.xX, (k _).1 h.kY, fun y j h1 h2 h3 h4 h5 => h.nY y j h1 h2 h3 h4 ((k _).2 h5), fun j h1 h2 h3 => h.nx j h1 h2 ((k _).2 h3)⟩
theorem FinP.unique {K : Pt → Prop} {X x Y X' x' Y' : Int} (h : FinP K X x Y) (h' : FinP K X' x' Y') : X = X' ∧ x = x' ∧ Y = Y' := by
  have eX : X = X' := by
    rcases Int.lt_trichotomy X X' with k | k | k
    · exact absurd h.kX (h'.nX X h.X1 k)
    · exact k
    · exact absurd h'.kX (h.nX X' h'.X1 k)
  subst eX
  have eY : Y = Y' := by
    rcases Int.lt_trichotomy Y Y' with k | k | k
    · exact absurd h.kY (h'.nY Y x h.Y1 k h.x0 h.xX)
    · exact k
    · exact absurd h'.kY (h.nY Y' x' h'.Y1 k h'.x0 h'.xX)
  subst eY
  refine ⟨rfl, ?_, rfl⟩
  rcases Int.lt_trichotomy x x' with k | k | k
  · exact absurd h.kY (h'.nx x h.x0 k)
  · exact k
  · exact absurd h'.kY (h.nx x' h'.x0 k)
end Go.Proofs.YtmmakljmikdooaaDoor
