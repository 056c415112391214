/- Chapter 12, plain: what cloth is made, its loops numbered along their yarns; renamed loops make the same cloth. -/
import Derived.Test.YtaacfjeddoekfaaFabPlain
namespace Go.Proofs.Ytaacfjeddoekfaa
set_option linter.unusedVariables false

theorem ahead_trans {cs : List Int} {x y i : Nat} (h : aheadB cs x i = true) (k : aheadB cs y x = true) : aheadB cs y i = true := by
  rw [ahead_iff] at *
  omega
theorem ahead_total {cs : List Int} {x y : Nat} (h : x ≠ y) : aheadB cs y x = true ∨ aheadB cs x y = true := by
  rw [ahead_iff, ahead_iff]
  omega
theorem countP_ahead {cs : List Int} {x y : Nat} (h : aheadB cs y x = true) : ∀ m, (List.range m).countP (aheadB cs x) + (if x < m then 1 else 0) ≤ (List.range m).countP (aheadB cs y)
  | 0 => by simp
  | m + 1 => by
    have ih := countP_ahead h m
    rw [List.range_succ, List.countP_append, List.countP_append, List.countP_singleton, List.countP_singleton]
    by_cases e : m = x
    · subst e
      rw [h, ahead_self, if_pos (by omega : m < m + 1)]
      rw [if_neg (by omega : ¬ m < m)] at ih
      simp
      omega
    · have e4 : (if x < m + 1 then 1 else 0) = (if x < m then 1 else 0) := by
        by_cases c : x < m
        · rw [if_pos c, if_pos (by omega)]
        · rw [if_neg c, if_neg (by omega)]
      rw [e4]
      generalize (if x < m then 1 else 0) = z at *
      by_cases e2 : aheadB cs x m = true
      · rw [e2, ahead_trans e2 h]
        simp only [if_true]
        omega
      · have e3 : aheadB cs x m = false := by simpa using e2
        rw [e3]
        simp only [Bool.false_eq_true, if_false]
        omega
theorem num_ahead {cs : List Int} {x y : Nat} (hx : x < cs.length) (h : aheadB cs y x = true) : num cs x < num cs y := by
  have := countP_ahead h cs.length
  rw [if_pos hx] at this
  unfold num
  omega
theorem num_inj {cs : List Int} {x y : Nat} (hx : x < cs.length) (hy : y < cs.length) (h : num cs x = num cs y) : x = y := by
  rcases Nat.decEq x y with hne | e
  · exfalso
    rcases ahead_total (cs := cs) hne with k | k
    · have := num_ahead hx k; omega
    · have := num_ahead hy k; omega
  · exact e
theorem pigeon : ∀ (n : Nat) (f : Nat → Nat), (∀ x, x < n → f x < n) → (∀ x y, x < n → y < n → f x = f y → x = y) → ∀ t, t < n → ∃ x, x < n ∧ f x = t
  | 0, f, _, _, t, ht => by omega
  | n + 1, f, hlt, hinj, t, ht => by
    have hm := hlt n (by omega)
    have ih := pigeon n (fun x => if f x = n then f n else f x) (fun x hx => by
      have h1 := hlt x (by omega)
      split
      · next e =>
        have : f n ≠ n := fun e2 => by have := hinj x n (by omega) (by omega) (e.trans e2.symm); omega
        omega
      · omega) (fun x y hx hy e => by
      by_cases e1 : f x = n
      · by_cases e2 : f y = n
        · exact hinj x y (by omega) (by omega) (e1.trans e2.symm)
        · rw [if_pos e1, if_neg e2] at e
          have := hinj n y (by omega) (by omega) e
          omega
      · by_cases e2 : f y = n
        · rw [if_neg e1, if_pos e2] at e
          have := hinj x n (by omega) (by omega) e
          omega
        · rw [if_neg e1, if_neg e2] at e
          exact hinj x y (by omega) (by omega) e)
    by_cases h1 : t = f n
    · exact ⟨n, by omega, h1.symm⟩
    · by_cases h2 : t = n
      · subst h2
        have hmt : f t < t := by omega
        obtain ⟨x, hx, e⟩ := ih (f t) hmt
        split at e
        · next e2 => exact ⟨x, by omega, e2⟩
        · have := hinj x t (by omega) (by omega) e
          omega
      · obtain ⟨x, hx, e⟩ := ih t (by omega)
        split at e
        · exact absurd e.symm h1
        · exact ⟨x, by omega, e⟩
/-- which loop has a number -/
def inv (cs : List Int) (t : Nat) : Nat := ((List.range cs.length).find? fun x => num cs x == t).getD 0
theorem inv_spec {cs : List Int} {t : Nat} (ht : t < cs.length) : inv cs t < cs.length ∧ num cs (inv cs t) = t := by
  obtain ⟨x, hx, e⟩ := pigeon cs.length (num cs) (fun x hx => num_lt hx) (fun x y hx hy h => num_inj hx hy h) t ht
  unfold inv
  cases h : (List.range cs.length).find? fun x => num cs x == t with
  | none =>
    have := List.find?_eq_none.1 h x (by simpa using hx)
    simp [e] at this
  | some y =>
    have h1 := List.find?_some h
    have h2 := List.mem_of_find?_eq_some h
    simp at h1 h2 ⊢
    exact ⟨h2, h1⟩
theorem inv_num {cs : List Int} {x : Nat} (hx : x < cs.length) : inv cs (num cs x) = x := by
  have := inv_spec (num_lt hx)
  exact num_inj this.1 hx this.2
theorem inv_eq {cs : List Int} {x t : Nat} (hx : x < cs.length) (h : num cs x = t) : inv cs t = x := by rw [← h, inv_num hx]
theorem inv_perm (cs : List Int) : ((List.range cs.length).map (inv cs)).Perm (List.range cs.length) := by
  rw [List.perm_ext_iff_of_nodup]
  · intro a
    simp only [List.mem_map, List.mem_range]
    constructor
    · rintro ⟨k, hk, rfl⟩; exact (inv_spec hk).1
    · intro ha; exact ⟨num cs a, num_lt ha, inv_num ha⟩
  · unfold List.Nodup
    rw [List.pairwise_map]
    refine List.Pairwise.imp_of_mem (fun {a b} ha hb h e => h ?_) List.nodup_range
    have h1 := (inv_spec (cs := cs) (t := a) (by simpa using ha)).2
    have h2 := (inv_spec (cs := cs) (t := b) (by simpa using hb)).2
    rw [← h1, ← h2, e]
  · exact List.nodup_range
theorem range_map_getD (cs : List Int) : (List.range cs.length).map (fun i => cs.getD i 0) = cs := by
  apply List.ext_getElem
  · simp
  · intro i h1 h2; simp [h2]
theorem inv_cars (cs : List Int) : ((List.range cs.length).map fun t => cs.getD (inv cs t) 0).Perm cs := by
  have h := (inv_perm cs).map fun i => cs.getD i 0
  rw [range_map_getD, List.map_map] at h
  exact h
/-- along the yarns the carriers rise -/
theorem inv_rise {cs : List Int} {s t : Nat} (hst : s < t) (ht : t < cs.length) : cs.getD (inv cs s) 0 ≤ cs.getD (inv cs t) 0 := by
  have h1 := inv_spec (cs := cs) (t := s) (by omega)
  have h2 := inv_spec ht
  rcases Int.lt_or_le (cs.getD (inv cs t) 0) (cs.getD (inv cs s) 0) with h | h
  · have := num_ahead (cs := cs) (x := inv cs t) (y := inv cs s) h2.1 ((ahead_iff _ _ _).2 (.inl h))
    omega
  · exact h

def cars (ls : List Lop) : List Int := ls.map Lop.car
theorem cars_len (ls : List Lop) : (cars ls).length = ls.length := List.length_map ..
theorem cars_get (ls : List Lop) (i : Nat) : (cars ls).getD i 0 = (ls.getD i noLop).car := by
  unfold cars
  rw [List.getD_eq_getElem?_getD, List.getElem?_map, List.getD_eq_getElem?_getD]
  cases ls[i]? <;> rfl
def nm (cs : List Int) (x : Int) : Int := (num cs x.toNat : Int)
def leZ (x y : Int) : Bool := decide (x ≤ y)
/-- the cloth of what was knitted -/
def cloth (k : Kn) : Kn :=
  ⟨(List.range k.loops.length).map fun t => ⟨(k.loops.getD (inv (cars k.loops) t) noLop).car, (k.loops.getD (inv (cars k.loops) t) noLop).thr.map (nm (cars k.loops))⟩,
   k.front.map (List.map (nm (cars k.loops))), k.back.map (List.map (nm (cars k.loops))), (k.loose.map (nm (cars k.loops))).mergeSort fun x y => decide (x ≤ y), k.rack⟩
theorem cloth_loops_len (k : Kn) : (cloth k).loops.length = k.loops.length := by simp [cloth]
theorem cloth_cars (k : Kn) : (cars (cloth k).loops).Perm (cars k.loops) := by
  have h := inv_cars (cars k.loops)
  have e : cars (cloth k).loops = (List.range (cars k.loops).length).map fun t => (cars k.loops).getD (inv (cars k.loops) t) 0 := by
    rw [cars_len]
    show List.map Lop.car (List.map _ _) = _
    rw [List.map_map]
    refine List.map_congr_left fun t _ => ?_
    rw [cars_get]; rfl
  rw [e]; exact h
theorem cloth_rise {k : Kn} {i : Nat} (h : i + 1 < k.loops.length) : ((cloth k).loops.getD i noLop).car ≤ ((cloth k).loops.getD (i + 1) noLop).car := by
  have e : ∀ t, t < k.loops.length → ((cloth k).loops.getD t noLop).car = (cars k.loops).getD (inv (cars k.loops) t) 0 := fun t ht => by
    rw [cars_get]
    unfold cloth
    simp [ht]
  rw [e i (by omega), e (i + 1) h]
  exact inv_rise (by omega) (by rw [cars_len]; exact h)

theorem mergeSort_perm_eq {l l' : List Int} (h : l.Perm l') : l.mergeSort (fun x y => decide (x ≤ y)) = l'.mergeSort fun x y => decide (x ≤ y) := by
  have tr : ∀ a b c : Int, decide (a ≤ b) = true → decide (b ≤ c) = true → decide (a ≤ c) = true := fun a b c h1 h2 => by simp at *; omega
  have tt : ∀ a b : Int, (decide (a ≤ b) || decide (b ≤ a)) = true := fun a b => by simp; omega
  refine List.Perm.eq_of_pairwise (le := fun x y => decide (x ≤ y) = true) (fun a b _ _ h1 h2 => by simp at h1 h2; omega) (List.pairwise_mergeSort tr tt l) (List.pairwise_mergeSort tr tt l') ?_
  exact (List.mergeSort_perm l _).trans (h.trans (List.mergeSort_perm l' _).symm)

/-! ### renamed loops -/
/-- the same, but that loops bear other numbers -/
structure Ren (π : Nat → Nat) (n : Nat) (k k' : Kn) : Prop where
  ππ : ∀ i, π (π i) = i
  lt : ∀ i, i < n → π i < n
  len : k.loops.length = n
  len' : k'.loops.length = n
  car : ∀ i, i < n → (k'.loops.getD (π i) noLop).car = (k.loops.getD i noLop).car
  thr : ∀ i, i < n → (k'.loops.getD (π i) noLop).thr = (k.loops.getD i noLop).thr.map fun x => (π x.toNat : Int)
  ord : ∀ i j, i < n → j < n → (k.loops.getD i noLop).car = (k.loops.getD j noLop).car → (i < j ↔ π i < π j)
  front : k'.front = k.front.map (List.map fun x => (π x.toNat : Int))
  back : k'.back = k.back.map (List.map fun x => (π x.toNat : Int))
  loose : k'.loose.Perm (k.loose.map fun x => (π x.toNat : Int))
  rack : k'.rack = k.rack
/-- all loops that are told of are there -/
structure Told (k : Kn) : Prop where
  thr : ∀ i, i < k.loops.length → ∀ x ∈ (k.loops.getD i noLop).thr, 0 ≤ x ∧ x < (k.loops.length : Int)
  front : ∀ l ∈ k.front, ∀ x ∈ l, 0 ≤ x ∧ x < (k.loops.length : Int)
  back : ∀ l ∈ k.back, ∀ x ∈ l, 0 ≤ x ∧ x < (k.loops.length : Int)
  loose : ∀ x ∈ k.loose, 0 ≤ x ∧ x < (k.loops.length : Int)
theorem cloth_ren {π : Nat → Nat} {n : Nat} {k k' : Kn} (h : Ren π n k k') (ht : Told k) : cloth k' = cloth k := by
  have hl : (cars k.loops).length = n := by rw [cars_len, h.len]
  have hl' : (cars k'.loops).length = n := by rw [cars_len, h.len']
  have hnum : ∀ x, x < n → num (cars k'.loops) (π x) = num (cars k.loops) x := fun x hx =>
    num_turn h.ππ (by rw [hl, hl']) (by rw [hl]; exact h.lt) (fun i hi => by rw [cars_get, cars_get]; exact h.car i (by omega)) (fun i j hi hj e => by rw [cars_get, cars_get] at e; exact h.ord i j (by omega) (by omega) e) (by omega)
  have hnm : ∀ l : List Int, (∀ x ∈ l, 0 ≤ x ∧ x < (k.loops.length : Int)) → (l.map fun x => (π x.toNat : Int)).map (nm (cars k'.loops)) = l.map (nm (cars k.loops)) := fun l hl => by
    rw [List.map_map]
    refine List.map_congr_left fun x hx => ?_
    have := hl x hx
    show nm _ _ = _
    unfold nm
    rw [Int.toNat_natCast, hnum _ (by have := h.len; omega)]
  have hinv : ∀ t, t < n → inv (cars k'.loops) t = π (inv (cars k.loops) t) := fun t htn => by
    have h1 := inv_spec (cs := cars k.loops) (t := t) (by omega)
    exact inv_eq (by rw [hl']; exact h.lt _ (by omega)) (by rw [hnum _ (by omega), h1.2])
  have hlists : ∀ (a b : List (List Int)), (∀ l ∈ a, ∀ x ∈ l, 0 ≤ x ∧ x < (k.loops.length : Int)) → b = a.map (List.map fun x => (π x.toNat : Int)) → b.map (List.map (nm (cars k'.loops))) = a.map (List.map (nm (cars k.loops))) := fun a b ha hb => by
    rw [hb, List.map_map]
    exact List.map_congr_left fun l hl => hnm l (ha l hl)
  unfold cloth
  congr 1
  · rw [h.len', h.len]
    refine List.map_congr_left fun t htt => ?_
    have htn : t < n := by simpa using htt
    have h1 := inv_spec (cs := cars k.loops) (t := t) (by omega)
    rw [hinv t htn, h.car _ (by omega), h.thr _ (by omega), hnm _ (ht.thr _ (by rw [h.len]; omega))]
  · exact hlists _ _ ht.front h.front
  · exact hlists _ _ ht.back h.back
  · refine mergeSort_perm_eq ?_
    rw [← hnm _ ht.loose]
    exact h.loose.map _
  · exact h.rack
end Go.Proofs.Ytaacfjeddoekfaa
