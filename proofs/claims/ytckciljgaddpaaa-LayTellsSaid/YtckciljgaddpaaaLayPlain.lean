/- Chapter 16, plain: pieces in shelves, the highest first. -/
import Derived.Test.YtckciljgaddpaaaSortPlain2
namespace Go.Proofs.Ytckciljgaddpaaa
set_option linter.unusedVariables false

/-- a shelf: where the next piece may begin, where the shelf does, how much cloth is used -/
structure SS where
  x : Int
  y : Int
  hi : Int
/-- where a piece so wide is laid -/
def SS.px (s : SS) (W w : Int) : Int := if s.x + w > W then 0 else s.x
def SS.py (s : SS) (W w : Int) : Int := if s.x + w > W then s.hi else s.y
def SS.ht (s : SS) (W w h : Int) : Int := if s.px W w = 0 then s.py W w + h else s.hi
def SS.next (s : SS) (W w h : Int) : SS := ⟨s.px W w + w, s.py W w, s.ht W w h⟩
/-- behind t pieces, in the order σ -/
def ss (W : Int) (wd hg : Nat → Int) (σ : Nat → Nat) : Nat → SS
  | 0 => ⟨0, 0, 0⟩
  | t + 1 => (ss W wd hg σ t).next W (wd (σ t)) (hg (σ t))
def pX (W : Int) (wd hg : Nat → Int) (σ : Nat → Nat) (t : Nat) : Int := (ss W wd hg σ t).px W (wd (σ t))
def pY (W : Int) (wd hg : Nat → Int) (σ : Nat → Nat) (t : Nat) : Int := (ss W wd hg σ t).py W (wd (σ t))
/-- pieces that may be laid -/
structure Pcs (W : Int) (wd hg : Nat → Int) (n : Nat) : Prop where
  w0 : ∀ i, i < n → 1 ≤ wd i
  w1 : ∀ i, i < n → wd i ≤ W
  h0 : ∀ i, i < n → 1 ≤ hg i
/-- an order: the highest first -/
structure Ord (hg : Nat → Int) (n : Nat) (σ τ : Nat → Nat) : Prop where
  st : ∀ k, σ (τ k) = k
  ts : ∀ k, τ (σ k) = k
  out : ∀ k, n ≤ k → σ k = k
  le : ∀ s t, s ≤ t → t < n → hg (σ t) ≤ hg (σ s)
  sb : ∀ s t, s < t → t < n → hg (σ s) = hg (σ t) → σ s < σ t
theorem Ord.lt {hg : Nat → Int} {n : Nat} {σ τ : Nat → Nat} (h : Ord hg n σ τ) {k : Nat} (hk : k < n) : σ k < n := by
  rcases Nat.lt_or_ge (σ k) n with c | c
  · exact c
  · have := h.out _ c
    have e : σ k = k := by have := congrArg τ this; rw [h.ts, h.ts] at this; exact this
    omega
theorem Ord.lt' {hg : Nat → Int} {n : Nat} {σ τ : Nat → Nat} (h : Ord hg n σ τ) {k : Nat} (hk : k < n) : τ k < n := by
  rcases Nat.lt_or_ge (τ k) n with c | c
  · exact c
  · have := h.out _ c
    rw [h.st] at this
    omega
theorem Ord.inj {hg : Nat → Int} {n : Nat} {σ τ : Nat → Nat} (h : Ord hg n σ τ) {i j : Nat} (e : σ i = σ j) : i = j := by
  have := congrArg τ e
  rwa [h.ts, h.ts] at this

/-- two pieces lie apart: the second came later -/
def Apt (W : Int) (wd hg : Nat → Int) (σ : Nat → Nat) (s r : Nat) : Prop :=
  (pY W wd hg σ s = pY W wd hg σ r ∧ pX W wd hg σ s + wd (σ s) ≤ pX W wd hg σ r) ∨ pY W wd hg σ s + hg (σ s) ≤ pY W wd hg σ r
structure Sh (W : Int) (wd hg : Nat → Int) (σ : Nat → Nat) (t : Nat) : Prop where
  x0 : 0 ≤ (ss W wd hg σ t).x
  x1 : (ss W wd hg σ t).x ≤ W
  y0 : 0 ≤ (ss W wd hg σ t).y
  yh : (ss W wd hg σ t).y ≤ (ss W wd hg σ t).hi
  z : (ss W wd hg σ t).x = 0 → t = 0
  last : 0 < t → hg (σ (t - 1)) ≤ (ss W wd hg σ t).hi - (ss W wd hg σ t).y
  prev : ∀ s, s < t → 0 ≤ pX W wd hg σ s ∧ 0 ≤ pY W wd hg σ s ∧ pX W wd hg σ s + wd (σ s) ≤ W ∧ pY W wd hg σ s + hg (σ s) ≤ (ss W wd hg σ t).hi ∧
    ((pY W wd hg σ s = (ss W wd hg σ t).y ∧ pX W wd hg σ s + wd (σ s) ≤ (ss W wd hg σ t).x) ∨ pY W wd hg σ s + hg (σ s) ≤ (ss W wd hg σ t).y)
  apt : ∀ s r, s < r → r < t → Apt W wd hg σ s r
section
variable {W : Int} {wd hg : Nat → Int} {n : Nat} {σ τ : Nat → Nat} (hp : Pcs W wd hg n) (ho : Ord hg n σ τ)
include hp ho
theorem sh_all (hW : 1 ≤ W) : ∀ t, t ≤ n → Sh W wd hg σ t
  | 0, _ => ⟨Int.le_refl _, by show (0 : Int) ≤ W; omega, Int.le_refl _, Int.le_refl _, fun _ => rfl, fun h => absurd h (by omega), fun s h => absurd h (by omega), fun s r _ h => absurd h (by omega)⟩
  | t + 1, ht => by
    have ih := sh_all hW t (by omega)
    have hσ := ho.lt (show t < n by omega)
    have w0 := hp.w0 _ hσ
    have w1 := hp.w1 _ hσ
    have h0 := hp.h0 _ hσ
    have hle : 0 < t → hg (σ t) ≤ hg (σ (t - 1)) := fun h => ho.le (t - 1) t (by omega) (by omega)
    have hz : t = 0 → (ss W wd hg σ t).x = 0 ∧ (ss W wd hg σ t).y = 0 ∧ (ss W wd hg σ t).hi = 0 := fun h => by subst h; exact ⟨rfl, rfl, rfl⟩
    have ex : (ss W wd hg σ (t + 1)).x = pX W wd hg σ t + wd (σ t) := rfl
    have ey : (ss W wd hg σ (t + 1)).y = pY W wd hg σ t := rfl
    have eh : (ss W wd hg σ (t + 1)).hi = if pX W wd hg σ t = 0 then pY W wd hg σ t + hg (σ t) else (ss W wd hg σ t).hi := rfl
    have vx : pX W wd hg σ t = if (ss W wd hg σ t).x + wd (σ t) > W then 0 else (ss W wd hg σ t).x := rfl
    have vy : pY W wd hg σ t = if (ss W wd hg σ t).x + wd (σ t) > W then (ss W wd hg σ t).hi else (ss W wd hg σ t).y := rfl
    obtain ⟨i1, i2, i3, i4, i5, i6, i7, i8⟩ := ih
    generalize ss W wd hg σ t = S at *
    have hcase : (S.x + wd (σ t) > W ∧ pX W wd hg σ t = 0 ∧ pY W wd hg σ t = S.hi ∧ (ss W wd hg σ (t + 1)).hi = S.hi + hg (σ t) ∧ 0 < t) ∨
        (S.x + wd (σ t) ≤ W ∧ pX W wd hg σ t = S.x ∧ pY W wd hg σ t = S.y ∧ 0 < t ∧ 0 < S.x ∧ (ss W wd hg σ (t + 1)).hi = S.hi) ∨ (t = 0 ∧ pX W wd hg σ t = 0 ∧ pY W wd hg σ t = 0 ∧ (ss W wd hg σ (t + 1)).hi = hg (σ t) ∧ S.x = 0 ∧ S.y = 0 ∧ S.hi = 0) := by
      by_cases c : S.x + wd (σ t) > W
      · rw [if_pos c] at vx vy
        rw [vx, if_pos rfl, vy] at eh
        refine .inl ⟨c, vx, vy, eh, ?_⟩
        rcases Nat.eq_zero_or_pos t with h | h
        · have := (hz h).1; omega
        · exact h
      · rw [if_neg c] at vx vy
        rcases Nat.eq_zero_or_pos t with h | h
        · obtain ⟨z1, z2, z3⟩ := hz h
          rw [z1] at vx
          rw [z2] at vy
          rw [vx, if_pos rfl, vy] at eh
          exact .inr (.inr ⟨h, vx, vy, by omega, z1, z2, z3⟩)
        · have hx : S.x ≠ 0 := fun e => by have := i5 e; omega
          rw [vx, if_neg hx] at eh
          exact .inr (.inl ⟨by omega, vx, vy, h, by omega, eh⟩)
    have eht : t + 1 - 1 = t := rfl
    have hnew : ∀ s, s < t → Apt W wd hg σ s t := by
      intro s hs
      have := i7 s hs
      unfold Apt
      rcases hcase with ⟨c1, c2, c3, c4, c5⟩ | ⟨c1, c2, c3, c4, c5, c6⟩ | ⟨c1, _⟩
      · exact .inr (by omega)
      · rw [c2, c3]; exact this.2.2.2.2
      · omega
    refine ⟨by omega, by omega, by omega, by omega, fun h => by omega, fun _ => by rw [eht]; have := i6; omega, fun s hs => ?_, fun s r h1 h2 => ?_⟩
    · rcases Nat.lt_or_eq_of_le (Nat.le_of_lt_succ hs) with h | rfl
      · have := i7 s h
        refine ⟨by omega, by omega, by omega, by omega, ?_⟩
        omega
      · refine ⟨by omega, by omega, by omega, ?_, ?_⟩
        · have := i6; omega
        · omega
    · rcases Nat.lt_or_eq_of_le (Nat.le_of_lt_succ h2) with h | rfl
      · exact i8 s r h1 h
      · exact hnew s h1

/-- what the first t pieces have -/
def area (wd hg : Nat → Int) (σ : Nat → Nat) : Nat → Int
  | 0 => 0
  | t + 1 => area wd hg σ t + wd (σ t) * hg (σ t)
theorem bound_all (hW : 1 ≤ W) : ∀ t, t ≤ n → 0 < t → ∃ S : Int, W * ((ss W wd hg σ t).hi - hg (σ 0)) + S ≤ 2 * area wd hg σ t ∧ (ss W wd hg σ t).x * hg (σ (t - 1)) ≤ S ∧
    area wd hg σ t ≤ W * (ss W wd hg σ t).y + (ss W wd hg σ t).x * ((ss W wd hg σ t).hi - (ss W wd hg σ t).y)
  | 0, _, h => absurd h (by omega)
  | t + 1, ht, _ => by
    have sh := sh_all hp ho hW t (by omega)
    have hσ := ho.lt (show t < n by omega)
    have w0 := hp.w0 _ hσ
    have w1 := hp.w1 _ hσ
    have h0 := hp.h0 _ hσ
    have ex : (ss W wd hg σ (t + 1)).x = (ss W wd hg σ t).px W (wd (σ t)) + wd (σ t) := rfl
    have ey : (ss W wd hg σ (t + 1)).y = (ss W wd hg σ t).py W (wd (σ t)) := rfl
    have eh : (ss W wd hg σ (t + 1)).hi = (ss W wd hg σ t).ht W (wd (σ t)) (hg (σ t)) := rfl
    have ea : area wd hg σ (t + 1) = area wd hg σ t + wd (σ t) * hg (σ t) := rfl
    rw [ex, ey, eh, ea, Nat.add_sub_cancel]
    clear ex ey eh ea
    have ha0 : 0 ≤ wd (σ t) * hg (σ t) := Int.mul_nonneg (by omega) (by omega)
    rcases Nat.eq_zero_or_pos t with h | h
    · subst h
      have e0 : ss W wd hg σ 0 = ⟨0, 0, 0⟩ := rfl
      have a0 : area wd hg σ 0 = 0 := rfl
      rw [e0, a0]
      unfold SS.ht SS.px SS.py
      dsimp only
      have n1 : ¬ (0 : Int) + wd (σ 0) > W := by omega
      rw [if_neg n1, if_pos rfl]
      refine ⟨wd (σ 0) * hg (σ 0), ?_, ?_, ?_⟩
      · rw [Int.zero_add, Int.sub_self, Int.mul_zero]; omega
      · rw [Int.zero_add]; exact Int.le_refl _
      · rw [Int.mul_zero, Int.zero_add, Int.zero_add, Int.zero_add, Int.sub_zero, Int.zero_add]; exact Int.le_refl _
    · obtain ⟨S, b1, b2, b3⟩ := bound_all hW t (by omega) h
      have hl := ho.le (t - 1) t (by omega) (by omega)
      have l := sh.last h
      have x0 := sh.x0
      have x1 := sh.x1
      have yh := sh.yh
      have hx : (ss W wd hg σ t).x ≠ 0 := fun e => by have := sh.z e; omega
      generalize ss W wd hg σ t = s at *
      generalize area wd hg σ t = A at *
      have hxh : s.x * hg (σ t) ≤ s.x * hg (σ (t - 1)) := Int.mul_le_mul_of_nonneg_left hl x0
      unfold SS.ht SS.px SS.py
      by_cases c : s.x + wd (σ t) > W
      · rw [if_pos c, if_pos c, if_pos rfl]
        have k1 : W * hg (σ t) ≤ (s.x + wd (σ t)) * hg (σ t) := Int.mul_le_mul_of_nonneg_right (by omega) (by omega)
        rw [Int.add_mul] at k1
        have k2 : s.x * (s.hi - s.y) ≤ W * (s.hi - s.y) := Int.mul_le_mul_of_nonneg_right x1 (by omega)
        refine ⟨wd (σ t) * hg (σ t), ?_, ?_, ?_⟩
        · have e : W * (s.hi + hg (σ t) - hg (σ 0)) = W * (s.hi - hg (σ 0)) + W * hg (σ t) := by rw [← Int.mul_add]; congr 1; omega
          rw [e]; omega
        · rw [Int.zero_add]; exact Int.le_refl _
        · have e : W * s.hi = W * s.y + W * (s.hi - s.y) := by rw [← Int.mul_add]; congr 1; omega
          have e2 : s.hi + hg (σ t) - s.hi = hg (σ t) := by omega
          rw [e, Int.zero_add, e2]
          omega
      · rw [if_neg c, if_neg c, if_neg hx]
        refine ⟨S + wd (σ t) * hg (σ t), by omega, ?_, ?_⟩
        · rw [Int.add_mul]; omega
        · have k : wd (σ t) * hg (σ t) ≤ wd (σ t) * (s.hi - s.y) := Int.mul_le_mul_of_nonneg_left (by omega) (by omega)
          rw [Int.add_mul]; omega
theorem bounds (hW : 1 ≤ W) {most : Int} (hm : ∀ i, i < n → hg i ≤ most) (hm0 : 0 ≤ most) : (ss W wd hg σ n).hi * W ≤ 2 * area wd hg σ n + most * W ∧ area wd hg σ n ≤ (ss W wd hg σ n).hi * W := by
  have sh := sh_all hp ho hW n (Nat.le_refl _)
  rcases Nat.eq_zero_or_pos n with h | h
  · subst h
    have e0 : (ss W wd hg σ 0).hi = 0 := rfl
    have a0 : area wd hg σ 0 = 0 := rfl
    rw [e0, a0, Int.zero_mul]
    have : 0 ≤ most * W := Int.mul_nonneg hm0 (by omega)
    omega
  · obtain ⟨S, b1, b2, b3⟩ := bound_all hp ho hW n (Nat.le_refl _) h
    have hS : 0 ≤ S := by
      have := hp.h0 _ (ho.lt (show n - 1 < n by omega))
      have := Int.mul_nonneg sh.x0 (show 0 ≤ hg (σ (n - 1)) by omega)
      omega
    have h0 := hm _ (ho.lt h)
    have yh := sh.yh
    have k2 := Int.mul_le_mul_of_nonneg_right sh.x1 (show 0 ≤ (ss W wd hg σ n).hi - (ss W wd hg σ n).y by omega)
    have k1 : hg (σ 0) * W ≤ most * W := Int.mul_le_mul_of_nonneg_right h0 (by omega)
    rw [Int.mul_sub] at b1
    rw [Int.mul_sub W] at k2
    rw [Int.mul_comm (hg (σ 0))] at k1
    rw [Int.mul_comm (ss W wd hg σ n).hi W]
    omega
end
theorem perm_sum {l m : List Int} (h : l.Perm m) : l.sum = m.sum := by
  induction h with
  | nil => rfl
  | cons x _ ih => simp [ih]
  | swap x y l => simp; omega
  | trans _ _ h1 h2 => exact h1.trans h2
theorem area_list (wd hg : Nat → Int) (σ : Nat → Nat) : ∀ t, area wd hg σ t = ((List.range t).map fun k => wd (σ k) * hg (σ k)).sum
  | 0 => rfl
  | t + 1 => by rw [List.range_succ, List.map_append, List.sum_append, area, area_list wd hg σ t]; simp
theorem area_perm {wd hg : Nat → Int} {n : Nat} {σ τ : Nat → Nat} (ho : Ord hg n σ τ) : area wd hg σ n = area wd hg id n := by
  rw [area_list, area_list]
  have hperm : ((List.range n).map σ).Perm (List.range n) := by
    rw [List.perm_ext_iff_of_nodup]
    · intro a
      simp only [List.mem_map, List.mem_range]
      constructor
      · rintro ⟨k, hk, rfl⟩; exact ho.lt hk
      · intro ha; exact ⟨τ a, ho.lt' ha, ho.st a⟩
    · unfold List.Nodup
      rw [List.pairwise_map]
      exact List.Pairwise.imp (fun h e => h (ho.inj e)) List.nodup_range
    · exact List.nodup_range
  have := perm_sum (hperm.map fun k => wd k * hg k)
  rw [List.map_map] at this
  exact this
end Go.Proofs.Ytckciljgaddpaaa
