/- Texts of the seat, put together: Rep, Rep2, Rep3. -/
import Derived.Test.YtmmakljmikdooaaDoorTwDraftWalk2
/- Chapter 5, plain: truths drawn several times: as many different rows, the same longest runs. -/
namespace Go.Proofs.YtmmakljmikdooaaDoor
set_option linter.unusedVariables false

/-! ### lists -/
theorem nodup_len {α : Type} [DecidableEq α] : ∀ {l l' : List α}, l.Nodup → (∀ x ∈ l, x ∈ l') → l.length ≤ l'.length
  | [], _, _, _ => Nat.zero_le _
  | x :: l, l', h, hs => by
    rw [List.nodup_cons] at h
    have hx : x ∈ l' := hs x (by simp)
    have h1 := nodup_len (l := l) (l' := l'.erase x) h.2 fun y hy => by
      have hne : y ≠ x := fun e => h.1 (e ▸ hy)
      exact (List.mem_erase_of_ne hne).2 (hs y (by simp [hy]))
    rw [List.length_erase_of_mem hx] at h1
    have : 0 < l'.length := List.length_pos_of_mem hx
    rw [List.length_cons]
    omega
theorem nodup_eq {α : Type} [DecidableEq α] {l l' : List α} (h : l.Nodup) (h' : l'.Nodup) (k : ∀ x, x ∈ l ↔ x ∈ l') : l.length = l'.length :=
  Nat.le_antisymm (nodup_len h fun x hx => (k x).1 hx) (nodup_len h' fun x hx => (k x).2 hx)
def repL {α : Type} (a : Nat) (r : List α) : List α := (List.replicate a r).flatten
theorem repL_succ {α : Type} (a : Nat) (r : List α) : repL (a + 1) r = r ++ repL a r := by
  unfold repL; rw [List.replicate_succ, List.flatten_cons]
theorem repL_len {α : Type} (r : List α) : ∀ a, (repL a r).length = a * r.length
  | 0 => by simp [repL]
  | a + 1 => by rw [repL_succ, List.length_append, repL_len r a, Nat.succ_mul]; omega
theorem repL_get {α : Type} (r : List α) : ∀ a x, x < a * r.length → (repL a r)[x]? = r[x % r.length]?
  | 0, x, h => by simp at h
  | a + 1, x, h => by
    rw [repL_succ]
    rcases Nat.lt_or_ge x r.length with k | k
    · rw [List.getElem?_append_left k, Nat.mod_eq_of_lt k]
    · rw [Nat.succ_mul] at h
      rw [List.getElem?_append_right k, repL_get r a (x - r.length) (by omega)]
      congr 1
      have : x = (x - r.length) + r.length := by omega
      conv => rhs; rw [this, Nat.add_mod_right]
theorem repL_inj {α : Type} {a : Nat} (ha : 1 ≤ a) {r s : List α} (hl : r.length = s.length) (h : repL a r = repL a s) : r = s := by
  obtain ⟨k, rfl⟩ : ∃ k, a = k + 1 := ⟨a - 1, by omega⟩
  rw [repL_succ, repL_succ] at h
  exact (List.append_inj h hl).1

/-! ### how many rows are different -/
theorem indexR_mem (ks : List (List Bool)) (r : List Bool) : (indexR ks r < 0 ↔ r ∉ ks) ∧ (r ∈ ks → (indexR ks r).toNat < ks.length) := by
  unfold indexR
  cases h : ks.findIdx? (· == r) with
  | none =>
    rw [List.findIdx?_eq_none_iff] at h
    refine ⟨⟨fun _ hm => ?_, fun _ => by simp⟩, fun hm => ?_⟩
    · simpa using h r hm
    · exact absurd (h r hm) (by simp)
  | some i =>
    rw [List.findIdx?_eq_some_iff_getElem] at h
    obtain ⟨hi, h1, _⟩ := h
    have hm : r ∈ ks := by
      have : ks[i] = r := by simpa using h1
      rw [← this]; exact List.getElem_mem hi
    refine ⟨⟨fun h => ?_, fun h => absurd hm h⟩, fun _ => by simpa using hi⟩
    simp only at h
    omega
theorem alStep_new {st : List Nat × List (List Bool)} {r : List Bool} (h : r ∉ st.2) : alStep st r = (st.1 ++ [st.2.length], st.2 ++ [r]) := by
  unfold alStep; rw [if_pos ((indexR_mem _ _).1.2 h)]
theorem alStep_old {st : List Nat × List (List Bool)} {r : List Bool} (h : r ∈ st.2) : alStep st r = (st.1 ++ [(indexR st.2 r).toNat], st.2) := by
  unfold alStep; rw [if_neg (fun k => (indexR_mem _ _).1.1 k h)]
theorem alF_spec (rows : List (List Bool)) : (alF rows).2.Nodup ∧ (∀ r, r ∈ (alF rows).2 ↔ r ∈ rows) ∧ (frF (alF rows).1).length = (alF rows).2.length := by
  suffices h : ∀ n, n ≤ rows.length → (alF (rows.take n)).2.Nodup ∧ (∀ r, r ∈ (alF (rows.take n)).2 ↔ r ∈ rows.take n) ∧ (frF (alF (rows.take n)).1).length = (alF (rows.take n)).2.length by
    have := h rows.length (Nat.le_refl _)
    rwa [List.take_length] at this
  intro n
  induction n with
  | zero => intro _; exact ⟨by simp [alF], by simp [alF], by simp [alF, frF]⟩
  | succ n ih =>
    intro hn
    obtain ⟨h1, h2, h3⟩ := ih (by omega)
    have hlt : n < rows.length := by omega
    rw [List.take_succ_eq_append_getElem hlt, alF_snoc]
    generalize rows[n] = r at *
    generalize rows.take n = pre at *
    by_cases hr : r ∈ (alF pre).2
    · rw [alStep_old hr]
      refine ⟨h1, fun x => ?_, ?_⟩
      · rw [h2, List.mem_append]
        refine ⟨.inl, fun h => ?_⟩
        rcases h with h | h
        · exact h
        · simp at h
          subst h
          exact (h2 _).1 hr
      · dsimp only
        rw [frF_snoc, if_neg]
        · exact h3
        · have := (indexR_mem (alF pre).2 r).2 hr
          omega
    · rw [alStep_new hr]
      refine ⟨?_, fun x => ?_, ?_⟩
      · dsimp only
        rw [List.nodup_append]
        refine ⟨h1, by simp, fun x hx y hy => ?_⟩
        simp at hy
        subst hy
        intro e
        exact hr (e ▸ hx)
      · dsimp only
        rw [List.mem_append, List.mem_append, h2]
      · dsimp only
        rw [frF_snoc, if_pos h3.symm, List.length_append, List.length_append, h3]
        rfl
end Go.Proofs.YtmmakljmikdooaaDoor
/- Chapter 5, plain: truths drawn several times: shafts, treadles. -/
namespace Go.Proofs.YtmmakljmikdooaaDoor
set_option linter.unusedVariables false

theorem nodup_map {α β : Type} {f : α → β} : ∀ {l : List α}, l.Nodup → (∀ x ∈ l, ∀ y ∈ l, f x = f y → x = y) → (l.map f).Nodup
  | [], _, _ => by simp
  | x :: l, h, k => by
    rw [List.nodup_cons] at h
    rw [List.map_cons, List.nodup_cons]
    refine ⟨fun hm => ?_, nodup_map h.2 fun a ha b hb => k a (by simp [ha]) b (by simp [hb])⟩
    obtain ⟨y, hy, e⟩ := List.mem_map.1 hm
    have := k y (by simp [hy]) x (by simp) e
    subst this
    exact h.1 hy
def Tr.bit (m : Tr) (x y : Nat) : Bool := m.bs.getD (y * m.w + x) false
/-- m', a times m to the side, b times up -/
structure RepT (m m' : Tr) (a b : Nat) : Prop where
  ok : OkT m
  ok' : OkT m'
  a1 : 1 ≤ a
  b1 : 1 ≤ b
  w : m'.w = a * m.w
  h : m'.h = b * m.h
  bit : ∀ x y, x < m'.w → y < m'.h → m'.bit x y = m.bit (x % m.w) (y % m.h)
theorem OkT.get {m : Tr} (h : OkT m) {x y : Nat} (hx : x < m.w) (hy : y < m.h) : (m.row y)[x]? = some (m.bit x y) := by
  have h1 := h.at_ hy
  rw [Nat.succ_mul] at h1
  rw [h.row_get hy hx]
  unfold Tr.bit
  rw [List.getD, List.getElem?_eq_getElem (by omega)]
  rfl
theorem OkT.turn_bit {m : Tr} (h : OkT m) {x y : Nat} (hx : x < m.h) (hy : y < m.w) : m.turned.bit x y = m.bit y x := by
  unfold Tr.bit Tr.turned
  dsimp only
  have h1 : (y + 1) * m.h ≤ m.w * m.h := Nat.mul_le_mul_right _ hy
  rw [Nat.succ_mul] at h1
  have h2 : y * m.h + x < m.h * m.w := by rw [Nat.mul_comm m.h m.w]; omega
  have h3 : 0 < m.h := by omega
  have e1 : (y * m.h + x) % m.h = x := by rw [Nat.add_comm, Nat.add_mul_mod_self_right, Nat.mod_eq_of_lt hx]
  have e2 : (y * m.h + x) / m.h = y := by rw [Nat.add_comm, Nat.add_mul_div_right _ _ h3, Nat.div_eq_of_lt hx, Nat.zero_add]
  rw [List.getD, List.getElem?_map, List.getElem?_range h2]
  simp only [Option.map_some, Option.getD_some]
  unfold turnB
  rw [e1, e2]
section
variable {m m' : Tr} {a b : Nat}
theorem RepT.turned (h : RepT m m' a b) : RepT m.turned m'.turned b a where
  ok := h.ok.turned
  ok' := h.ok'.turned
  a1 := h.b1
  b1 := h.a1
  w := h.h
  h := h.w
  bit := fun x y hx hy => by
    have hx' : x < m'.h := hx
    have hy' : y < m'.w := hy
    have p1 : 0 < m.w := h.ok.W1
    have p2 : 0 < m.h := h.ok.H1
    rw [h.ok'.turn_bit hx' hy', h.bit y x hy' hx']
    exact (h.ok.turn_bit (Nat.mod_lt _ p2) (Nat.mod_lt _ p1)).symm
theorem RepT.row (h : RepT m m' a b) {y : Nat} (hy : y < m'.h) : m'.row y = repL a (m.row (y % m.h)) := by
  have p2 : 0 < m.h := h.ok.H1
  have p1 : 0 < m.w := h.ok.W1
  have hy2 : y % m.h < m.h := Nat.mod_lt _ p2
  apply List.ext_getElem?
  intro x
  have l1 := h.ok'.row_len hy
  have l2 := h.ok.row_len hy2
  have l3 := repL_len (m.row (y % m.h)) a
  rw [l2] at l3
  rcases Nat.lt_or_ge x m'.w with k | k
  · have k2 : x < a * m.w := by rw [← h.w]; exact k
    rw [h.ok'.get k hy, repL_get _ a x (by rw [l2]; exact k2), l2, h.bit x y k hy, h.ok.get (Nat.mod_lt _ p1) hy2]
  · rw [List.getElem?_eq_none (by omega), List.getElem?_eq_none (by rw [l3, ← h.w]; exact k)]
theorem RepT.mem (h : RepT m m' a b) (r : List Bool) : r ∈ (List.range m'.h).map m'.row ↔ ∃ s ∈ (List.range m.h).map m.row, r = repL a s := by
  have p2 : 0 < m.h := h.ok.H1
  constructor
  · intro hr
    obtain ⟨y, hy, rfl⟩ := List.mem_map.1 hr
    rw [List.mem_range] at hy
    exact ⟨m.row (y % m.h), List.mem_map.2 ⟨_, List.mem_range.2 (Nat.mod_lt _ p2), rfl⟩, h.row hy⟩
  · rintro ⟨s, hs, rfl⟩
    obtain ⟨y, hy, rfl⟩ := List.mem_map.1 hs
    rw [List.mem_range] at hy
    have hle : m.h ≤ m'.h := by rw [h.h]; exact Nat.le_mul_of_pos_left _ h.b1
    have hy' : y < m'.h := by omega
    refine List.mem_map.2 ⟨y, List.mem_range.2 hy', ?_⟩
    rw [h.row hy', Nat.mod_eq_of_lt hy]
theorem RepT.tread (h : RepT m m' a b) : treadF m' = treadF m := by
  unfold treadF alikeF
  obtain ⟨n1, k1, e1⟩ := alF_spec ((List.range m.h).map m.row)
  obtain ⟨n2, k2, e2⟩ := alF_spec ((List.range m'.h).map m'.row)
  rw [e1, e2]
  have len : ∀ s, s ∈ (alF ((List.range m.h).map m.row)).2 → s.length = m.w := fun s hs => by
    obtain ⟨y, hy, rfl⟩ := List.mem_map.1 ((k1 s).1 hs)
    exact h.ok.row_len (List.mem_range.1 hy)
  have n3 : ((alF ((List.range m.h).map m.row)).2.map (repL a)).Nodup := by
    refine nodup_map n1 fun x hx y hy e => ?_
    exact repL_inj h.a1 (by rw [len x hx, len y hy]) e
  have h3 := nodup_eq n2 n3 fun r => by
    rw [k2, h.mem, List.mem_map]
    constructor
    · rintro ⟨s, hs, rfl⟩; exact ⟨s, (k1 s).2 hs, rfl⟩
    · rintro ⟨s, hs, rfl⟩; exact ⟨s, (k1 s).1 hs, rfl⟩
  rw [h3, List.length_map]
theorem RepT.shafts (h : RepT m m' a b) : shaftsF m' = shaftsF m := h.turned.tread
end
end Go.Proofs.YtmmakljmikdooaaDoor
/- Chapter 5, plain: truths drawn several times: the longest runs. -/
namespace Go.Proofs.YtmmakljmikdooaaDoor
set_option linter.unusedVariables false

def bestF (v : Bool) (r : List Bool) : Option Nat := if indexF r (!v) < 0 then none else some (scanF r v (indexF r (!v)).toNat r.length (0, 0)).2
theorem scan_max (r : List Bool) (v : Bool) (fr most : Nat) : ∀ k, (scanF r v fr k (0, most)).1 = (scanF r v fr k (0, 0)).1 ∧ (scanF r v fr k (0, most)).2 = max most (scanF r v fr k (0, 0)).2
  | 0 => by unfold scanF; exact ⟨rfl, by simp⟩
  | k + 1 => by
    obtain ⟨h1, h2⟩ := scan_max r v fr most k
    unfold scanF
    split
    · dsimp only
      rw [h1, h2]
      exact ⟨rfl, by omega⟩
    · dsimp only
      exact ⟨rfl, h2⟩
theorem rowL_best (v : Bool) (r : List Bool) (most : Nat) : rowL v r most = (bestF v r).map (max most) := by
  unfold rowL bestF
  split
  · rfl
  · rw [(scan_max r v _ most _).2]; rfl
section
variable {r : List Bool} {v : Bool} {fr : Nat}
theorem scan_run (r : List Bool) (v : Bool) (fr : Nat) : ∀ k, (scanF r v fr k (0, 0)).1 ≤ (scanF r v fr k (0, 0)).2
  | 0 => Nat.le_refl _
  | k + 1 => by
    have h := scan_run r v fr k
    unfold scanF
    split
    · dsimp only; omega
    · dsimp only; omega
theorem scan_mono (r : List Bool) (v : Bool) (fr : Nat) (k : Nat) : ∀ j, (scanF r v fr k (0, 0)).2 ≤ (scanF r v fr (k + j) (0, 0)).2
  | 0 => Nat.le_refl _
  | j + 1 => by
    have h := scan_mono r v fr k j
    rw [← Nat.add_assoc]
    show _ ≤ (if _ then _ else _ : Nat × Nat).2
    split
    · dsimp only; omega
    · exact h
theorem scan_succ (r : List Bool) (v : Bool) (fr k : Nat) : scanF r v fr (k + 1) (0, 0) = if r.getD ((fr + k) % r.length) false = v then ((scanF r v fr k (0, 0)).1 + 1, max (scanF r v fr k (0, 0)).2 ((scanF r v fr k (0, 0)).1 + 1)) else (0, (scanF r v fr k (0, 0)).2) := rfl
theorem scan_per (hf : fr < r.length) (hv : r.getD fr false ≠ v) : ∀ k, (scanF r v fr (k + 1 + r.length) (0, 0)).1 = (scanF r v fr (k + 1) (0, 0)).1
  | 0 => by
    rw [Nat.zero_add, Nat.add_comm 1 r.length, scan_succ, Nat.add_mod_right, Nat.mod_eq_of_lt hf, if_neg hv]
    show 0 = (if r.getD ((fr + 0) % r.length) false = v then _ else _ : Nat × Nat).1
    rw [Nat.add_zero, Nat.mod_eq_of_lt hf, if_neg hv]
  | k + 1 => by
    have h := scan_per hf hv k
    have e : k + 1 + 1 + r.length = (k + 1 + r.length) + 1 := by omega
    have e2 : fr + (k + 1 + r.length) = (fr + (k + 1)) + r.length := by omega
    rw [e, scan_succ, scan_succ r v fr (k + 1), e2, Nat.add_mod_right]
    split
    · exact congrArg (· + 1) h
    · rfl
theorem scan_bound (hf : fr < r.length) (hv : r.getD fr false ≠ v) : ∀ k, (scanF r v fr k (0, 0)).1 ≤ (scanF r v fr r.length (0, 0)).2 := by
  intro k
  induction k using Nat.strongRecOn with
  | _ k ih =>
    rcases Nat.lt_or_ge r.length k with h | h
    · have e : k = (k - r.length - 1) + 1 + r.length := by omega
      rw [e, scan_per hf hv]
      exact ih _ (by omega)
    · have h1 := scan_run r v fr k
      have h2 := scan_mono r v fr k (r.length - k)
      rw [show k + (r.length - k) = r.length by omega] at h2
      omega
theorem scan_le2 (hf : fr < r.length) (hv : r.getD fr false ≠ v) : ∀ k, (scanF r v fr k (0, 0)).2 ≤ (scanF r v fr r.length (0, 0)).2
  | 0 => by show 0 ≤ _; omega
  | k + 1 => by
    have h1 := scan_le2 hf hv k
    have h2 := scan_bound hf hv (k + 1)
    rw [scan_succ] at h2 ⊢
    split
    next h =>
      rw [if_pos h] at h2
      dsimp only at h2 ⊢
      omega
    next h => exact h1
theorem scan_rep (r : List Bool) (v : Bool) (fr a : Nat) (ha : 1 ≤ a) (hr : 1 ≤ r.length) : ∀ k, scanF (repL a r) v fr k (0, 0) = scanF r v fr k (0, 0)
  | 0 => rfl
  | k + 1 => by
    have h := scan_rep r v fr a ha hr k
    rw [scan_succ, scan_succ, h, repL_len]
    have e : (repL a r).getD ((fr + k) % (a * r.length)) false = r.getD ((fr + k) % r.length) false := by
      have hp : 0 < a * r.length := Nat.mul_pos ha hr
      rw [List.getD, List.getD, repL_get r a _ (Nat.mod_lt _ hp), Nat.mod_mod_of_dvd _ (Nat.dvd_mul_left _ _)]
    rw [e]
end
theorem indexF_rep {r : List Bool} {v : Bool} {a : Nat} (ha : 1 ≤ a) : indexF (repL a r) v = indexF r v := by
  unfold indexF
  obtain ⟨k, rfl⟩ : ∃ k, a = k + 1 := ⟨a - 1, by omega⟩
  cases h : r.findIdx? (· == v) with
  | some i =>
    rw [repL_succ, List.findIdx?_append, h]
    rfl
  | none =>
    have hn : (repL (k + 1) r).findIdx? (· == v) = none := by
      rw [List.findIdx?_eq_none_iff] at h ⊢
      intro x hx
      unfold repL at hx
      obtain ⟨l, hl, hx⟩ := List.mem_flatten.1 hx
      rw [(List.mem_replicate.1 hl).2] at hx
      exact h x hx
    rw [hn]
theorem best_rep {r : List Bool} {v : Bool} {a : Nat} (ha : 1 ≤ a) (hr : 1 ≤ r.length) : bestF v (repL a r) = bestF v r := by
  unfold bestF
  rw [indexF_rep ha]
  split
  · rfl
  next h =>
    rcases indexF_range (xs := r) (v := !v) with e | ⟨i, hi, e⟩
    · omega
    · rw [e, Int.toNat_natCast, scan_rep r v i a ha hr, repL_len]
      have hne : r.getD i false ≠ v := by
        unfold indexF at e
        cases h2 : r.findIdx? (· == !v) with
        | none => rw [h2] at e; cases e
        | some j =>
          rw [h2] at e
          simp only at e
          have : j = i := by omega
          subst this
          have h3 := (List.findIdx?_eq_some_iff_getElem.1 h2).2.1
          rw [List.getD, List.getElem?_eq_getElem hi]
          simp at h3
          simp [h3]
      have h1 := scan_le2 hi hne (a * r.length)
      have h2 := scan_mono r v i r.length (a * r.length - r.length)
      have h3 : r.length ≤ a * r.length := Nat.le_mul_of_pos_left _ ha
      rw [show r.length + (a * r.length - r.length) = a * r.length by omega] at h2
      congr 1
      omega
theorem lm_fold (v : Bool) : ∀ (rows : List (List Bool)) (m : Nat),
    (rows.foldl (fun acc r => acc.bind (rowL v r)) (some m) = none ↔ ∃ r ∈ rows, bestF v r = none) ∧
    (∀ k, rows.foldl (fun acc r => acc.bind (rowL v r)) (some m) = some k → m ≤ k ∧ (∀ r ∈ rows, ∃ R, bestF v r = some R ∧ R ≤ k) ∧ (k = m ∨ ∃ r ∈ rows, bestF v r = some k))
  | [], m => ⟨by simp, fun k h => by simp at h; subst h; exact ⟨Nat.le_refl _, by simp, .inl rfl⟩⟩
  | r :: rows, m => by
    rw [List.foldl_cons]
    rw [show (some m).bind (rowL v r) = (bestF v r).map (max m) from rowL_best v r m]
    cases hb : bestF v r with
    | none =>
      simp only [Option.map_none]
      have hn := lm_none v rows
      refine ⟨⟨fun _ => ⟨r, by simp, hb⟩, fun _ => ?_⟩, fun k h => ?_⟩
      · exact hn
      · rw [hn] at h; cases h
    | some R =>
      simp only [Option.map_some]
      obtain ⟨h1, h2⟩ := lm_fold v rows (max m R)
      refine ⟨?_, fun k h => ?_⟩
      · rw [h1]
        constructor
        · rintro ⟨x, hx, e⟩; exact ⟨x, by simp [hx], e⟩
        · rintro ⟨x, hx, e⟩
          simp at hx
          rcases hx with rfl | hx
          · rw [hb] at e; cases e
          · exact ⟨x, hx, e⟩
      · obtain ⟨k1, k2, k3⟩ := h2 k h
        refine ⟨by omega, fun x hx => ?_, ?_⟩
        · simp at hx
          rcases hx with rfl | hx
          · exact ⟨R, hb, by omega⟩
          · exact k2 x hx
        · rcases k3 with k3 | ⟨x, hx, e⟩
          · rcases Nat.le_total m R with h' | h'
            · exact .inr ⟨r, by simp, by rw [hb, k3]; congr 1; omega⟩
            · exact .inl (by omega)
          · exact .inr ⟨x, by simp [hx], e⟩
theorem lm_same {v : Bool} {rows rows' : List (List Bool)} (h : ∀ r' ∈ rows', ∃ r ∈ rows, bestF v r' = bestF v r) (h' : ∀ r ∈ rows, ∃ r' ∈ rows', bestF v r = bestF v r') : lmF v rows' = lmF v rows := by
  unfold lmF
  obtain ⟨n1, s1⟩ := lm_fold v rows 0
  obtain ⟨n2, s2⟩ := lm_fold v rows' 0
  cases e1 : rows.foldl (fun acc r => acc.bind (rowL v r)) (some 0) with
  | none =>
    rw [n2]
    obtain ⟨r, hr, e⟩ := n1.1 e1
    obtain ⟨r', hr', e'⟩ := h' r hr
    exact ⟨r', hr', by rw [← e', e]⟩
  | some k =>
    cases e2 : rows'.foldl (fun acc r => acc.bind (rowL v r)) (some 0) with
    | none =>
      obtain ⟨r', hr', e⟩ := n2.1 e2
      obtain ⟨r, hr, e'⟩ := h r' hr'
      have := n1.2 ⟨r, hr, by rw [← e', e]⟩
      rw [e1] at this
      cases this
    | some k' =>
      obtain ⟨_, a2, a3⟩ := s1 k e1
      obtain ⟨_, b2, b3⟩ := s2 k' e2
      congr 1
      apply Nat.le_antisymm
      · rcases b3 with b3 | ⟨r', hr', e⟩
        · omega
        · obtain ⟨r, hr, e'⟩ := h r' hr'
          obtain ⟨R, h1, h2⟩ := a2 r hr
          rw [← e', e] at h1
          cases h1
          exact h2
      · rcases a3 with a3 | ⟨r, hr, e⟩
        · omega
        · obtain ⟨r', hr', e'⟩ := h' r hr
          obtain ⟨R, h1, h2⟩ := b2 r' hr'
          rw [← e', e] at h1
          cases h1
          exact h2
theorem RepT.long {m m' : Tr} {a b : Nat} (h : RepT m m' a b) (v : Bool) : longF m' v = longF m v := by
  unfold longF
  have hl : ∀ s ∈ (List.range m.h).map m.row, 1 ≤ s.length := fun s hs => by
    obtain ⟨y, hy, rfl⟩ := List.mem_map.1 hs
    rw [h.ok.row_len (List.mem_range.1 hy)]
    exact h.ok.W1
  rw [lm_same (fun r' hr' => ?_) (fun r hr => ?_)]
  · obtain ⟨s, hs, rfl⟩ := (h.mem r').1 hr'
    exact ⟨s, hs, best_rep h.a1 (hl s hs)⟩
  · exact ⟨repL a r, (h.mem _).2 ⟨r, hr, rfl⟩, (best_rep h.a1 (hl r hr)).symm⟩
end Go.Proofs.YtmmakljmikdooaaDoor
