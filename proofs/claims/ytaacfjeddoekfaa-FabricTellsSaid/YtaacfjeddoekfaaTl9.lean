/- Texts of the seat, put together: PlanTwo, FabRef2, KnitRef1, KnitRef2. -/
import Derived.Test.YtaacfjeddoekfaaTl8
import Derived.Test.YtaacfjeddoekfaaTl2
import Derived.Test.YtaacfjeddoekfaaTl5
import Derived.Test.YtaacfjeddoekfaaTl3
/- 'x = append(append([]T{}, l...), y)': two slices are built, two appends, one store: the three orders, once. -/
namespace Go.Proofs.Ytaacfjeddoekfaa
open Go.RowKit
set_option linter.unusedVariables false

theorem own_built (w : World) (base : Nat) (e : TypeId) (size : Nat) (hb : base ≤ w.heap.size) : (w.alloc (.cells #[] e)).ownsRow base e size (.slice (some ⟨w.heap.size, 0, none⟩) 0 0) 0 [] :=
  ⟨by simp, .inr ⟨w.heap.size, 0, #[], rfl, hb, heap_alloc_new _ _, Nat.le_refl _, by simp [maxLen], by simp, by simp⟩⟩
/-- the three orders of two slices built and two appends -/
def PT2 (b0 a1 b1 a2 : Nat) (r : PT) : PT :=
  .two b0 (.two a1 (.one b1 (.one a2 r)) b1 (.one a1 (.one a2 r))) b1 (.one b0 (.one a1 (.one a2 r)))
theorem news_built {w : World} {us : Array Value} {e : TypeId} {m c : Nat} : News (w.alloc (.cells us e)) (.slice (some ⟨w.heap.size, 0, none⟩) m c) m us.toList :=
  .inr ⟨_, 0, c, rfl, fun j x hx => by rw [Nat.zero_add]; exact (Arr.new w us e).cell hx⟩

section
variable {P : Program} {ops : Array Oper} {S : World → Prop} {Q : Exit → Act → World → Prop} {z : Nat}
theorem planT_two_app {a : Act} {w wz : World} {b0 a1 b1 a2 : Nat} {r : PT} (o0 o1 o2 o3 : Oper) {s1 x1 s3 x3 : Operand} {t e : TypeId} {zv u : Value} {size bytes m m2 : Nat}
    (T : SliceT P t e zv size bytes) (us : List Value) (us2 : Array Value)
    (l0 : ops.toList[b0]? = some o0) (l1 : ops.toList[a1]? = some o1) (l2 : ops.toList[b1]? = some o2) (l3 : ops.toList[a2]? = some o3)
    (g0 : o0.guard = none) (g1 : o1.guard = none) (g2 : o2.guard = none) (g3 : o3.guard = none)
    (hb : Below wz.heap.size wz w) (hS : ∀ w', Below wz.heap.size wz w' → S w')
    (p1 : o1.op = .call { callee := .builtin .append, args := #[s1, x1], argTypes := #[t, t] }) (p3 : o3.op = .call { callee := .builtin .append, args := #[s3, x3], argTypes := #[t, t] })
    (e0 : ∀ w, (execOp a.eval o0).run P w = .ok (.value (.slice (some ⟨w.heap.size, 0, none⟩) 0 0)) (w.alloc (.cells #[] e)))
    (e0' : ∀ v2 w, (execOp (a.put o2.dst v2).eval o0).run P w = .ok (.value (.slice (some ⟨w.heap.size, 0, none⟩) 0 0)) (w.alloc (.cells #[] e)))
    (e2 : ∀ w, (execOp a.eval o2).run P w = .ok (.value (.slice (some ⟨w.heap.size, 0, none⟩) m2 m2)) (w.alloc (.cells us2 e)))
    (e2a : ∀ v0 w, (execOp (a.put o0.dst v0).eval o2).run P w = .ok (.value (.slice (some ⟨w.heap.size, 0, none⟩) m2 m2)) (w.alloc (.cells us2 e)))
    (e2b : ∀ v0 v1 w, (execOp ((a.put o0.dst v0).put o1.dst v1).eval o2).run P w = .ok (.value (.slice (some ⟨w.heap.size, 0, none⟩) m2 m2)) (w.alloc (.cells us2 e)))
    (sa : ∀ v0, (a.put o0.dst v0).eval s1 = v0) (sb : ∀ v0 v2, ((a.put o0.dst v0).put o2.dst v2).eval s1 = v0) (sc : ∀ v0 v2, ((a.put o2.dst v2).put o0.dst v0).eval s1 = v0)
    (xa : ∀ v0, (a.put o0.dst v0).eval x1 = u) (xb : ∀ v0 v2, ((a.put o0.dst v0).put o2.dst v2).eval x1 = u) (xc : ∀ v0 v2, ((a.put o2.dst v2).put o0.dst v0).eval x1 = u)
    (ta : ∀ v0 v1 v2, (((a.put o0.dst v0).put o1.dst v1).put o2.dst v2).eval s3 = v1) (tb : ∀ v0 v1 v2, (((a.put o0.dst v0).put o2.dst v2).put o1.dst v1).eval s3 = v1) (tc : ∀ v0 v1 v2, (((a.put o2.dst v2).put o0.dst v0).put o1.dst v1).eval s3 = v1)
    (ya : ∀ v0 v1 v2, (((a.put o0.dst v0).put o1.dst v1).put o2.dst v2).eval x3 = v2) (yb : ∀ v0 v1 v2, (((a.put o0.dst v0).put o2.dst v2).put o1.dst v1).eval x3 = v2) (yc : ∀ v0 v1 v2, (((a.put o2.dst v2).put o0.dst v0).put o1.dst v1).eval x3 = v2)
    (hu : News wz u m us) (hl : us.length = m * size) (h1 : ∀ u ∈ us, u.oneCell' = true) (hl2 : us2.size = m2 * size) (h2 : ∀ u ∈ us2.toList, u.oneCell' = true) (hby : (m + m2) * bytes ≤ 140737488355328)
    (K : ∀ v' w', w'.ownsRow wz.heap.size e size v' (0 + m + m2) ([] ++ us ++ us2.toList) → Below wz.heap.size wz w' →
      (∀ v0 v1 v2, PlanT P ops Q S z r ((((a.put o0.dst v0).put o1.dst v1).put o2.dst v2).put o3.dst v') w') ∧
      (∀ v0 v1 v2, PlanT P ops Q S z r ((((a.put o0.dst v0).put o2.dst v2).put o1.dst v1).put o3.dst v') w') ∧
      (∀ v0 v1 v2, PlanT P ops Q S z r ((((a.put o2.dst v2).put o0.dst v0).put o1.dst v1).put o3.dst v') w')) :
    PlanT P ops Q S z (PT2 b0 a1 b1 a2 r) a w := by
  have G : ∀ {o : Oper} (f : Nat → Option Bool), o.guard = none → Region.wanted o f = true := fun f h => by unfold Region.wanted; rw [h]
  have hl2' : us2.toList.length = m2 * size := by simpa using hl2
  have A : ∀ {w1 : World} (_ : Below wz.heap.size wz w1) (o : Obj), Below wz.heap.size wz (w1.alloc o) := fun h o => h.alloc h.size _
  refine planT_two ?_ ?_
  · refine planT_do o0 _ _ l0 (G _ g0) (e0 w) (.inr (hS _ (A hb _))) ?_
    have ho := own_built w wz.heap.size e size hb.size
    refine planT_two ?_ ?_
    · refine planT_appA o1 T us ho (A hb _) (Nat.le_refl _) l1 (G _ g1) p1 (sa _) (xa _) (hu.keep (A hb _).block) hl h1 (by rw [Nat.zero_add]; exact Nat.le_trans (Nat.mul_le_mul_right _ (Nat.le_add_right _ _)) hby) ?_
      intro v1 w1 ho1 hb1 _ _
      refine ⟨.inr (hS _ hb1), ?_⟩
      refine planT_do o2 _ _ l2 (G _ g2) (e2b _ _ _) (.inr (hS _ (A hb1 _))) ?_
      refine planT_appA o3 T us2.toList (own_al ho1 _) (A hb1 _) (Nat.le_refl _) l3 (G _ g3) p3 (ta _ _ _) (ya _ _ _) news_built hl2' h2 (by rw [Nat.zero_add]; exact hby) ?_
      intro v' w' ho' hb' _ _
      exact ⟨.inr (hS _ hb'), (K v' w' ho' hb').1 _ _ _⟩
    · refine planT_do o2 _ _ l2 (G _ g2) (e2a _ _) (.inr (hS _ (A (A hb _) _))) ?_
      refine planT_appA o1 T us (own_al ho _) (A (A hb _) _) (Nat.le_refl _) l1 (G _ g1) p1 (sb _ _) (xb _ _) (hu.keep (A (A hb _) _).block) hl h1 (by rw [Nat.zero_add]; exact Nat.le_trans (Nat.mul_le_mul_right _ (Nat.le_add_right _ _)) hby) ?_
      intro v1 w1 ho1 hb1 hg1 _
      have hn : News w1 (.slice (some ⟨(w.alloc (.cells #[] e)).heap.size, 0, none⟩) m2 m2) m2 us2.toList := by
        refine .inr ⟨_, 0, m2, rfl, fun j x hx => ?_⟩
        refine (World.cell?_of_block (a := ⟨(w.alloc (.cells #[] e)).heap.size, 0 + j, none⟩) (hg1.block _ (by simp) (fun h => by simp [Value.ownBlock] at h))).trans ?_
        rw [Nat.zero_add]; exact (Arr.new _ us2 e).cell hx
      refine ⟨.inr (hS _ hb1), ?_⟩
      refine planT_appA o3 T us2.toList ho1 hb1 (Nat.le_refl _) l3 (G _ g3) p3 (tb _ _ _) (yb _ _ _) hn hl2' h2 (by rw [Nat.zero_add]; exact hby) ?_
      intro v' w' ho' hb' _ _
      exact ⟨.inr (hS _ hb'), (K v' w' ho' hb').2.1 _ _ _⟩
  · refine planT_do o2 _ _ l2 (G _ g2) (e2 _) (.inr (hS _ (A hb _))) ?_
    refine planT_do o0 _ _ l0 (G _ g0) (e0' _ _) (.inr (hS _ (A (A hb _) _))) ?_
    have ho := own_built (w.alloc (.cells us2 e)) wz.heap.size e size (A hb _).size
    refine planT_appA o1 T us ho (A (A hb _) _) (Nat.le_refl _) l1 (G _ g1) p1 (sc _ _) (xc _ _) (hu.keep (A (A hb _) _).block) hl h1 (by rw [Nat.zero_add]; exact Nat.le_trans (Nat.mul_le_mul_right _ (Nat.le_add_right _ _)) hby) ?_
    intro v1 w1 ho1 hb1 hg1 _
    have hn : News w1 (.slice (some ⟨w.heap.size, 0, none⟩) m2 m2) m2 us2.toList := by
      refine .inr ⟨_, 0, m2, rfl, fun j x hx => ?_⟩
      refine (World.cell?_of_block (a := ⟨w.heap.size, 0 + j, none⟩) (hg1.block _ (by simp; omega) (fun h => by simp [Value.ownBlock] at h))).trans ?_
      rw [World.cell?_alloc_lt _ _ _ (by simp)]
      rw [Nat.zero_add]; exact (Arr.new _ us2 e).cell hx
    refine ⟨.inr (hS _ hb1), ?_⟩
    refine planT_appA o3 T us2.toList ho1 hb1 (Nat.le_refl _) l3 (G _ g3) p3 (tc _ _ _) (yc _ _ _) hn hl2' h2 (by rw [Nat.zero_add]; exact hby) ?_
    intro v' w' ho' hb' _ _
    exact ⟨.inr (hS _ hb'), (K v' w' ho' hb').2.2 _ _ _⟩
end
end Go.Proofs.Ytaacfjeddoekfaa
/- Chapter 12, the document's answer: rising. -/
namespace Go.Proofs.Ytaacfjeddoekfaa
open Go.RowKit
set_option linter.unusedVariables false
set_option linter.unusedSimpArgs false

/-! ### insertion, plain -/
def UpTo (f : Nat → Int) (i : Nat) : Prop := ∀ a b, a ≤ b → b < i → f a ≤ f b
/-- all but place j is in order; place j is no greater than what follows -/
def But (f : Nat → Int) (i j : Nat) : Prop := (∀ a b, a ≤ b → b ≤ i → a ≠ j → b ≠ j → f a ≤ f b) ∧ ∀ b, j < b → b ≤ i → f j ≤ f b
theorem But.start {f : Nat → Int} {i : Nat} (h : UpTo f i) : But f i i := ⟨fun a b hab hb ha hb' => h a b hab (by omega), fun b h1 h2 => by omega⟩
theorem But.stop {f : Nat → Int} {i j : Nat} (h : But f i j) (hj : j ≤ i) (hs : 0 < j → ¬ f j < f (j - 1)) : UpTo f (i + 1) := fun a b hab hb => by
  by_cases e1 : a = j
  · by_cases e2 : b = j
    · subst e1 e2; exact Int.le_refl _
    · subst e1; exact h.2 b (by omega) (by omega)
  · by_cases e2 : b = j
    · subst e2
      have h1 := hs (by omega)
      have h2 := h.1 a (b - 1) (by omega) (by omega) e1 (by omega)
      omega
    · exact h.1 a b hab (by omega) e1 e2
theorem But.step {f : Nat → Int} {i j : Nat} (h : But f i j) (hj : j ≤ i) (h0 : 0 < j) (hs : f j < f (j - 1)) : But (swp f j (j - 1)) i (j - 1) := by
  have e : ∀ k, k ≠ j → k ≠ j - 1 → swp f j (j - 1) k = f k := fun k h1 h2 => by unfold swp; rw [if_neg h1, if_neg h2]
  have ej : swp f j (j - 1) j = f (j - 1) := by unfold swp; rw [if_pos rfl]
  have ej1 : swp f j (j - 1) (j - 1) = f j := by unfold swp; rw [if_neg (by omega), if_pos rfl]
  refine ⟨fun a b hab hb ha hb' => ?_, fun b h1 h2 => ?_⟩
  · by_cases c1 : a = j
    · subst c1
      by_cases c2 : b = a
      · subst c2; exact Int.le_refl _
      · rw [ej, e b c2 hb']
        exact h.1 _ _ (by omega) hb (by omega) c2
    · by_cases c2 : b = j
      · subst c2
        rw [ej, e a c1 ha]
        exact h.1 _ _ (by omega) (by omega) c1 (by omega)
      · rw [e a c1 ha, e b c2 hb']
        exact h.1 _ _ hab hb c1 c2
  · rw [ej1]
    by_cases c : b = j
    · subst c; rw [ej]; omega
    · rw [e b c (by omega)]
      exact h.2 b (by omega) h2
def vals (f : Nat → Int) (n : Nat) : List Int := (List.range n).map f
theorem swp_perm {f : Nat → Int} {n i j : Nat} (hi : i < n) (hj : j < n) : (vals (swp f i j) n).Perm (vals f n) := by
  let σ : Nat → Nat := fun k => if k = i then j else if k = j then i else k
  have hσσ : ∀ k, σ (σ k) = k := fun k => by dsimp only [σ]; (repeat' split) <;> omega
  have hlt : ∀ k, k < n → σ k < n := fun k hk => by dsimp only [σ]; (repeat' split) <;> omega
  have he : ∀ k, swp f i j k = f (σ k) := fun k => by
    unfold swp
    dsimp only [σ]
    split
    · rfl
    split
    · rfl
    · rfl
  have h := (perm_range hσσ hσσ hlt hlt).map f
  rw [List.map_map] at h
  unfold vals
  rw [List.map_congr_left fun k _ => he k]
  exact h
theorem sorted_is {f : Nat → Int} {n : Nat} {xs : List Int} (h : UpTo f n) (hp : (vals f n).Perm xs) : vals f n = xs.mergeSort fun x y => decide (x ≤ y) := by
  have tr : ∀ a b c : Int, decide (a ≤ b) = true → decide (b ≤ c) = true → decide (a ≤ c) = true := fun a b c h1 h2 => by simp at *; omega
  have tt : ∀ a b : Int, (decide (a ≤ b) || decide (b ≤ a)) = true := fun a b => by simp; omega
  rw [← mergeSort_perm_eq hp]
  refine List.Perm.eq_of_pairwise (le := fun x y => decide (x ≤ y) = true) (fun a b _ _ h1 h2 => by simp at h1 h2; omega) ?_ (List.pairwise_mergeSort tr tt _) (List.mergeSort_perm _ _).symm
  unfold vals
  rw [List.pairwise_map, List.pairwise_iff_getElem]
  intro i j hi hj hij
  simp only [List.length_range] at hi hj
  simp only [List.getElem_range, decide_eq_true_eq]
  exact h i j (by omega) hj
theorem ints_vals (xs : List Int) : vals (fun k => xs.getD k 0) xs.length = xs := by
  unfold vals
  apply List.ext_getElem
  · simp
  · intro i h1 h2; simp [h2]
theorem fRow_vals (f : Nat → Int) (n : Nat) : fRow f n = ints (vals f n) := by unfold fRow ints vals; rw [List.map_map]; rfl

set_option maxRecDepth 100000 in
set_option maxHeartbeats 4000000 in
theorem rising_any {B : Nat} {v : Value} {xs : List Int} (w : World) (h : w.ownsRow B 3 1 v xs.length (ints xs)) (hn : xs.length ≤ 1000000) :
    Calls Try.prog 41 #[v] w fun e w' => ∃ u, e = .returned u ∧ w'.ownsRow w.heap.size 3 1 u xs.length (ints (xs.mergeSort fun x y => decide (x ≤ y))) ∧ Below w.heap.size w w' := by
  have hwide : Wide v := by
    rcases h.2 with ⟨e, _⟩ | ⟨g, cap, cur, e, _⟩
    · exact .inl e
    · exact .inr ⟨_, _, _, e⟩
  obtain ⟨A, c, rfl, h1, h2⟩ := own_form h
  have HW := Lib.hid hwide
  have HR := Lib.hid (Row.of_own h)
  clear h hwide
  unfold maxLen at h2
  have HO0 := Lib.hid (own_built w w.heap.size 3 1 (Nat.le_refl _))
  have HB0 : Hid (Below w.heap.size w (w.alloc (.cells #[] 3))) := (Below.refl _ _).alloc (Nat.le_refl _) _
  have HR0 := Lib.hid (HR.out.same (w' := w.alloc (.cells #[] 3)) fun b hb => HB0.out.block b hb.2)
  go_enter Try.func41, Try.ntmps41
  go_upto_region 2 with (first
    | (at_builtin
       refine app_elsW T25 (ints xs) HO0.out HB0.out (Nat.le_refl _) rfl rfl rfl rfl HW.out HR0.out (ints_one xs) ?_ ?_
       rotate_right
       intro v4 w4 hown4 hb4 hg4 ho4
       rw [Nat.zero_add] at hown4
       have HO4 := Lib.hid hown4
       have HB4 := Lib.hid hb4
       have hnn : v4.ownBlock ≠ none := by
         intro e
         rw [e] at ho4
         rcases ho4 with k | k <;> cases k
       clear hb4 hg4 ho4))
  case refine_1 => omega
  rw [List.nil_append] at hown4 HO4
  have hir : ∃ g cap, v4 = .slice (some ⟨g, 0, none⟩) xs.length cap ∧ w.heap.size ≤ g := by
    rcases hown4.2 with ⟨e, _⟩ | ⟨g, cap, cur, e, hg, _⟩
    · rw [e] at hnn; exact absurd rfl hnn
    · exact ⟨g, cap, e, hg⟩
  obtain ⟨g, cap, rfl, hgw⟩ := hir
  have HI4 : Hid (IR w4 w.heap.size g cap xs.length fun k => xs.getD k 0) := by
    show World.ownsRow _ _ _ _ _ _ _
    rw [fRow_vals, ints_vals]; exact HO4.out
  have HP4 : Hid ((vals (fun k => xs.getD k 0) xs.length).Perm xs) := by show List.Perm _ _; rw [ints_vals]
  have HFIN : Hid (∀ f, UpTo f xs.length → (vals f xs.length).Perm xs → fRow f xs.length = ints (xs.mergeSort fun x y => decide (x ≤ y))) := fun f h1 h2 => by rw [fRow_vals, sorted_is h1 h2]
  generalize (fun k => xs.getD k 0) = f0 at *
  obtain ⟨hc1, hc2⟩ := HI4.out.caps
  unfold maxLen at hc2
  clear hown4 hnn HO4 HR0 HO0 HB0 HR HW
  generalize hnn : xs.length = n at *
  have HNL := Lib.hid hnn
  clear hnn
  go_wp2_with fail
  go_loopg [11] n (fun gg ctr wr => ∃ (i : Nat) (f : Nat → Int), i ≤ n ∧ gg = n - i ∧ ctr = .int .i64 i ∧ IR wr w.heap.size g cap n f ∧ Below w.heap.size w wr ∧ UpTo f i ∧ (vals f n).Perm xs)
  case atStart => exact ⟨0, f0, by omega, rfl, rfl, HI4.out, HB4.out, fun a b _ hb => by omega, HP4.out⟩
  case round =>
    clear HI4 HP4 HB4
    obtain ⟨i, f, hi, rfl, rfl, hir, hb, hu, hp⟩ := hrel
    have HIR := Lib.hid hir
    have HB := Lib.hid hb
    have HU := Lib.hid hu
    have HP := Lib.hid hp
    clear hir hb hu hp
    by_cases hlt : i < n
    case neg =>
      obtain rfl : i = n := by omega
      go_wp2_with fail
      go_ret
      refine ⟨_, rfl, ?_, HB.out⟩
      rw [← HFIN.out f HU.out HP.out, HNL.out]
      exact HIR.out
    have HBT := Lib.hid (But.start HU.out)
    go_wp2_with fail
    go_loopg [5] i (fun gg sj wr => ∃ (j : Nat) (f : Nat → Int), j ≤ i ∧ j = gg ∧ sj = .int .i64 j ∧ IR wr w.heap.size g cap n f ∧ Below w.heap.size w wr ∧ But f i j ∧ (vals f n).Perm xs)
    case atStart => exact ⟨i, f, Nat.le_refl _, rfl, rfl, HIR.out, HB.out, HBT.out, HP.out⟩
    case round =>
      clear HIR HB HU HP HBT
      obtain ⟨j, f, hji, rfl, rfl, hir, hb, hbt, hp⟩ := hrel
      have HIR := Lib.hid hir
      have HB := Lib.hid hb
      have HBT := Lib.hid hbt
      have HP := Lib.hid hp
      clear hir hb hbt hp
      by_cases hj : 0 < j
      case neg =>
        have HST := Lib.hid (HBT.out.stop hji fun h => absurd h hj)
        have hdj : decide (0 < j) = false := decide_eq_false hj
        clear hj
        go_wp2_with (go_quiet (fail))
        go_roundg (n - (i + 1))
        case measure => omega
        case rel => exact ⟨i + 1, f, by omega, rfl, by go_num, HIR.out.dN _, below_dN HB.out, HST.out, HP.out⟩
      have x0 := HIR.out.cell (k := j) (by omega)
      have x1 := HIR.out.cell (k := j - 1) (by omega)
      have z0 := HIR.out.free j
      have z1 := HIR.out.free (j - 1)
      have hdj : decide (0 < j) = true := decide_eq_true hj
      have hw1 : IntKind.i64.wrap ((j : Int) - 1) = (j : Int) - 1 := IntWalk.i64_in _ (by omega)
      have ia1 := fun w => idx_at (g := g) (c := cap) (x := (j : Int) - 1) (i := j - 1) (n := n) (by omega) (by omega) w
      have ia0 := fun w => idx_at (g := g) (c := cap) (x := (j : Int)) (i := j) (n := n) rfl (by omega) w
      have HSW := Lib.hid (HIR.out.swap (i := j) (j := j - 1) (by omega) (by omega))
      have HPW := Lib.hid ((swp_perm (f := f) (n := n) (i := j) (j := j - 1) (by omega) (by omega)).trans HP.out)
      have HBW : Hid (∀ k a b, Below w.heap.size w (((wr.drewN k).setCell ⟨g, j, none⟩ a).setCell ⟨g, j - 1, none⟩ b)) := fun k a b => ((below_dN (n := k) HB.out).setCell hgw _).setCell hgw _
      by_cases hk : f j < f (j - 1)
      · have HN := Lib.hid (HBT.out.step hji hj hk)
        have hcmp : decide (f j < f (j - 1)) = true := decide_eq_true hk
        clear hk
        generalize f (j - 1) = y at *
        generalize f j = x at *
        go_wp2_with (go_quiet (fail))
        go_region
        go_wp2_with fail
        go_roundg (j - 1)
        case measure => omega
        case rel => exact ⟨j - 1, _, by omega, rfl, by show Value.int .i64 _ = _; congr 1; omega, HSW.out, HBW.out _ _ _, HN.out, HPW.out⟩
      · have HST := Lib.hid (HBT.out.stop hji (fun _ => hk))
        have hcmp : decide (f j < f (j - 1)) = false := decide_eq_false hk
        clear hk
        generalize f (j - 1) = y at *
        generalize f j = x at *
        go_wp2_with (go_quiet (fail))
        go_roundg (n - (i + 1))
        case measure => omega
        case rel => exact ⟨i + 1, f, by omega, rfl, by go_num, HIR.out.dN _, below_dN HB.out, HST.out, HP.out⟩
end Go.Proofs.Ytaacfjeddoekfaa
/- Chapter 11: the reference's machine: who is where. -/
namespace Go.Proofs.Ytaacfjeddoekfaa
open Go.RowKit
set_option linter.unusedVariables false
set_option linter.unusedSimpArgs false

/-- a loop on a needle -/
structure Hd where
  l : Int
  b : Int
  n : Int
def Hd.cells (h : Hd) : List Value := [.int .i64 h.l, .int .i64 h.b, .int .i64 h.n]
theorem Hd.cells_len (h : Hd) : h.cells.length = 3 := rfl
def Hd.at_ (h : Hd) (b n : Int) : Bool := h.b == b && h.n == n
def heldOn (hs : List Hd) (b n : Int) : List Int := (hs.filter fun h => h.at_ b n).map Hd.l
def heldOff (hs : List Hd) (b n : Int) : List Hd := hs.filter fun h => !h.at_ b n
abbrev Helds := Els Hd.cells 3
theorem hd_cells {w : World} {S : Nat → Prop} {A : Option Addr} {hs : List Hd} (hr : Row w S 3 A hs.length (hs.flatMap Hd.cells)) {k : Nat} (hk : k < hs.length) :
    ∃ b o, A = some ⟨b, o, none⟩ ∧ S b ∧ w.cell? ⟨b, o + k * 3, none⟩ = some (.int .i64 hs[k].l) ∧ w.cell? ⟨b, o + k * 3 + 1, none⟩ = some (.int .i64 hs[k].b) ∧ w.cell? ⟨b, o + k * 3 + 2, none⟩ = some (.int .i64 hs[k].n) := by
  obtain ⟨b, o, e, hs, hc⟩ := els_at Hd.cells_len hr (by decide) hk
  exact ⟨b, o, e, hs, hc 0 _ rfl, hc 1 _ rfl, hc 2 _ rfl⟩
theorem hrow_of {w : World} {S : Nat → Prop} {A : Option Addr} {n c : Nat} {l : List Hd} (h : Helds w S (.slice A n c) l) : Row w S 3 A l.length (l.flatMap Hd.cells) := by
  obtain ⟨A', c', e, _, _, h⟩ := h
  cases e
  exact h
theorem heldOn_snoc (hs : List Hd) (h : Hd) (b n : Int) : heldOn (hs ++ [h]) b n = heldOn hs b n ++ if h.at_ b n then [h.l] else [] := by
  unfold heldOn
  rw [List.filter_append, List.map_append]
  congr 1
  cases e : h.at_ b n <;> simp [e]
theorem heldOff_snoc (hs : List Hd) (h : Hd) (b n : Int) : heldOff (hs ++ [h]) b n = heldOff hs b n ++ if h.at_ b n then [] else [h] := by
  unfold heldOff
  rw [List.filter_append]
  congr 1
  cases e : h.at_ b n <;> simp [e]
theorem heldOn_len (hs : List Hd) (b n : Int) : (heldOn hs b n).length ≤ hs.length := by unfold heldOn; rw [List.length_map]; exact List.length_filter_le _ _
theorem heldOff_len (hs : List Hd) (b n : Int) : (heldOff hs b n).length ≤ hs.length := List.length_filter_le _ _
/-- a state's value -/
def sval (N : Int) (vl vh vo : Value) (r d : Int) : Value := .agg #[.int .i64 N, vl, vh, vo, .int .i64 r, .int .i64 d]
/-- nil, or a slice that begins somewhere -/
def NilOr (v : Value) : Prop := v = .slice none 0 0 ∨ ∃ g p n c, v = .slice (some ⟨g, p, none⟩) n c
theorem NilOr.of_own {w : World} {base : Nat} {e : TypeId} {size n : Nat} {v : Value} {xs : List Value} (h : w.ownsRow base e size v n xs) : NilOr v := by
  rcases own_nil_or h with ⟨e, _⟩ | ⟨g, c, e, _⟩
  · exact .inl e
  · exact .inr ⟨g, 0, _, c, e⟩
/-- a slice -/
def IsSl (v : Value) : Prop := ∃ A n c, v = .slice A n c

set_option maxRecDepth 100000 in
set_option maxHeartbeats 2000000 in
theorem On_any {N r d b n : Int} {vl vh vo : Value} {hs : List Hd} (w : World) (h1 : IsSl vl) (hv : Helds w (fun b => b < w.heap.size) vh hs) (h2 : IsSl vo) (hl : hs.length ≤ 1000000) :
    Calls Try.prog 51 #[sval N vl vh vo r d, .int .i64 b, .int .i64 n] w fun e w' => ∃ u, e = .returned u ∧ Ints w' (fun b => w.heap.size ≤ b ∧ b < w'.heap.size) u (heldOn hs b n) ∧ Below w.heap.size w w' ∧ NilOr u := by
  have HV := Lib.hid hv
  obtain ⟨A0, n0, c0, rfl⟩ := h1
  obtain ⟨A2, n2, c2, rfl⟩ := h2
  obtain ⟨A, c, rfl, g1, g2, hr⟩ := hv
  clear hr
  unfold maxLen at g2
  unfold sval
  have HB0 : Hid (Below w.heap.size w (w.alloc (.cells #[.int .i64 N, .slice A0 n0 c0, .slice A hs.length c, .slice A2 n2 c2, .int .i64 r, .int .i64 d] 58))) := (Below.refl _ _).alloc (Nat.le_refl _) _
  go_enter Try.func51, Try.ntmps51
  go_wp2_with fail
  go_loopg [7, 13] hs.length (fun gg out ctr wr => ∃ i : Nat, i ≤ hs.length ∧ gg = hs.length - i ∧ ctr = .int .i64 i ∧ wr.ownsRow w.heap.size 3 1 out (heldOn (hs.take i) b n).length (ints (heldOn (hs.take i) b n)) ∧ Below w.heap.size w wr)
  case atStart => exact ⟨0, by omega, rfl, rfl, World.ownsRow_nil _ _ _ _, HB0.out⟩
  case round =>
    clear HB0
    obtain ⟨i, hi, rfl, rfl, ho, hb⟩ := hrel
    have HO := Lib.hid ho
    have HB := Lib.hid hb
    clear ho hb
    by_cases hlt : i < hs.length
    case neg =>
      obtain rfl : i = hs.length := by omega
      rw [List.take_length] at HO
      go_wp2_with fail
      go_ret
      exact ⟨_, rfl, Ints.of_own HO.out, HB.out, NilOr.of_own HO.out⟩
    obtain ⟨bk, o, e, hbk, x0, x1, x2⟩ := hd_cells (hrow_of (HV.out.same (Same.of_below HB.out))) hlt
    cases e
    have hbw : bk < wr.heap.size := Nat.lt_of_lt_of_le hbk HB.out.size
    have HS : Hid (heldOn (hs.take (i + 1)) b n = heldOn (hs.take i) b n ++ if hs[i].at_ b n then [hs[i].l] else []) := by
      show _ = _
      rw [List.take_succ_eq_append_getElem hlt, heldOn_snoc]
    have hlen : (heldOn (hs.take i) b n).length ≤ 1000000 := by have := heldOn_len (hs.take i) b n; rw [List.length_take] at this; omega
    have HAT : Hid (hs[i].at_ b n = (hs[i].b == b && hs[i].n == n)) := rfl
    generalize hs[i] = x at *
    generalize hL : heldOn (hs.take i) b n = L at *
    have HL := Lib.hid hL
    clear hL
    by_cases c1 : x.b = b
    · by_cases c2 : x.n = n
      · have q1 : (x.b == b) = true := by simpa using c1
        have q2 : (x.n == n) = true := by simpa using c2
        have HE : Hid (heldOn (hs.take (i + 1)) b n = L ++ [x.l]) := by show _ = _; rw [HS.out, HAT.out, q1, q2]; rfl
        have HO2 : Hid ((wr.alloc (.cells #[.int .i64 x.l, .int .i64 x.b, .int .i64 x.n] 90)).ownsRow w.heap.size 3 1 u7 L.length (ints L)) := own_al HO.out _
        have HB2 : Hid (Below w.heap.size w (wr.alloc (.cells #[.int .i64 x.l, .int .i64 x.b, .int .i64 x.n] 90))) := HB.out.alloc HB.out.size _
        clear c1 c2 HO HB
        have y0 := (Arr.new wr #[.int .i64 x.l, .int .i64 x.b, .int .i64 x.n] 90).cell (k := 0) rfl
        go_upto_region 6 with fail
        generalize wr.alloc (.cells #[.int .i64 x.l, .int .i64 x.b, .int .i64 x.n] 90) = w2 at *
        go_wp2_with (at_builtin
                     refine app_el T25 [.int .i64 x.l] HO2.out HB2.out (Nat.le_refl _) rfl rfl rfl rfl rfl ?_ ?_ ?_
                     rotate_right
                     intro v1 w1 hown1 hb1 hg1 ho1
                     have HF := Lib.hid (And.intro hown1 hb1)
                     clear hown1 hb1 hg1 ho1)
        case refine_1 => simp [Value.oneCell']
        case refine_2 => omega
        go_roundg (hs.length - (i + 1))
        case measure => omega
        case rel => exact ⟨i + 1, by omega, rfl, by go_num, by rw [HE.out, List.length_append, List.length_singleton, ints_app]; exact HF.out.1, HF.out.2⟩
      · have q1 : (x.b == b) = true := by simpa using c1
        have q2 : (x.n == n) = false := by simpa using c2
        have HE : Hid (heldOn (hs.take (i + 1)) b n = L) := by show _ = _; rw [HS.out, HAT.out, q1, q2]; simp
        clear c1 c2
        go_wp2_with fail
        go_roundg (hs.length - (i + 1))
        case measure => omega
        case rel => exact ⟨i + 1, by omega, rfl, by go_num, by rw [HE.out]; exact own_al HO.out _, HB.out.alloc HB.out.size _⟩
    · have q1 : (x.b == b) = false := by simpa using c1
      have HE : Hid (heldOn (hs.take (i + 1)) b n = L) := by show _ = _; rw [HS.out, HAT.out, q1]; simp
      clear c1
      go_wp2_with fail
      go_roundg (hs.length - (i + 1))
      case measure => omega
      case rel => exact ⟨i + 1, by omega, rfl, by go_num, by rw [HE.out]; exact own_al HO.out _, HB.out.alloc HB.out.size _⟩
end Go.Proofs.Ytaacfjeddoekfaa
/- Chapter 11: the reference: what is left when a needle is emptied; which needle faces one. -/
namespace Go.Proofs.Ytaacfjeddoekfaa
open Go.RowKit
set_option linter.unusedVariables false
set_option linter.unusedSimpArgs false

theorem Helds.of_own {w : World} {base : Nat} {e : TypeId} {v : Value} {n : Nat} {hs : List Hd} (h : w.ownsRow base e 3 v n (hs.flatMap Hd.cells)) : Helds w (fun b => base ≤ b ∧ b < w.heap.size) v hs := by
  obtain ⟨A, c, rfl, h1, h2⟩ := own_form h
  have hl : hs.length = n := by have := h.1; rw [flat_len Hd.cells_len] at this; omega
  subst hl
  exact ⟨A, c, rfl, h1, h2, .of_own h⟩
theorem hd_one (hs : List Hd) : ∀ u ∈ hs.flatMap Hd.cells, u.oneCell' = true := by
  intro u hu
  obtain ⟨h, _, hu⟩ := List.mem_flatMap.1 hu
  simp [Hd.cells] at hu
  rcases hu with rfl | rfl | rfl <;> rfl

set_option maxRecDepth 100000 in
set_option maxHeartbeats 1000000 in
theorem Facing_any {N r d b n : Int} {vl vh vo : Value} (w : World) (h1 : IsSl vl) (hv : IsSl vh) (h2 : IsSl vo) (hr : -4 ≤ r ∧ r ≤ 4) (hn : big n) :
    Calls Try.prog 52 #[sval N vl vh vo r d, .int .i64 b, .int .i64 n] w fun e w' => e = .returned (.tuple #[.int .i64 (fB b), .int .i64 (fN r b n)]) ∧ Below w.heap.size w w' := by
  obtain ⟨A0, n0, c0, rfl⟩ := h1
  obtain ⟨A1, n1, c1, rfl⟩ := hv
  obtain ⟨A2, n2, c2, rfl⟩ := h2
  unfold sval
  obtain ⟨r1, r2⟩ := hr
  obtain ⟨m1, m2⟩ := hn
  have HB0 : Hid (Below w.heap.size w (w.alloc (.cells #[.int .i64 N, .slice A0 n0 c0, .slice A1 n1 c1, .slice A2 n2 c2, .int .i64 r, .int .i64 d] 58))) := (Below.refl _ _).alloc (Nat.le_refl _) _
  by_cases hz : b = 0
  · subst hz
    have HE : Hid (fB 0 = 1 ∧ fN r 0 n = n - r) := ⟨rfl, rfl⟩
    go_enter Try.func52, Try.ntmps52
    go_wp2_with (go_quiet (fail))
    go_ret2
    exact ⟨by rw [HE.out.1, HE.out.2]; rfl, below_dN HB0.out⟩
  · have hze : (b == 0) = false := by simpa using hz
    have HE : Hid (fB b = 0 ∧ fN r b n = n + r) := by show _ ∧ _; unfold fB fN; rw [if_neg hz, if_neg hz]; exact ⟨rfl, rfl⟩
    clear hz
    go_enter Try.func52, Try.ntmps52
    go_wp2_with (go_quiet (fail))
    go_ret2
    exact ⟨by rw [HE.out.1, HE.out.2]; rfl, below_dN HB0.out⟩

set_option maxRecDepth 100000 in
set_option maxHeartbeats 2000000 in
theorem taken_any {N r d b n : Int} {vl vh vo : Value} {hs : List Hd} (w : World) (h1 : IsSl vl) (hv : Helds w (fun b => b < w.heap.size) vh hs) (h2 : IsSl vo) (hl : hs.length ≤ 1000000) :
    Calls Try.prog 53 #[sval N vl vh vo r d, .int .i64 b, .int .i64 n] w fun e w' => ∃ u, e = .returned (sval N vl u vo r d) ∧ Helds w' (fun b => w.heap.size ≤ b ∧ b < w'.heap.size) u (heldOff hs b n) ∧ NilOr u ∧ Below w.heap.size w w' := by
  have HV := Lib.hid hv
  obtain ⟨A0, n0, c0, rfl⟩ := h1
  obtain ⟨A2, n2, c2, rfl⟩ := h2
  obtain ⟨A, c, rfl, g1, g2, hr⟩ := hv
  clear hr
  unfold maxLen at g2
  unfold sval
  have HB0 : Hid (Below w.heap.size w (w.alloc (.cells #[.int .i64 N, .slice A0 n0 c0, .slice A hs.length c, .slice A2 n2 c2, .int .i64 r, .int .i64 d] 58))) := (Below.refl _ _).alloc (Nat.le_refl _) _
  have HA1 : Hid (Arr ((w.alloc (.cells #[.int .i64 N, .slice A0 n0 c0, .slice A hs.length c, .slice A2 n2 c2, .int .i64 r, .int .i64 d] 58)).alloc (.cells #[.int .i64 0, nils, nils, nils, .int .i64 0, .int .i64 0] 58)) w.heap.size 58 [.int .i64 N, .slice A0 n0 c0, .slice A hs.length c, .slice A2 n2 c2, .int .i64 r, .int .i64 d]) := (Arr.new w _ 58).alloc _
  have HA2 := Lib.hid (arr_new2 w (.cells #[.int .i64 N, .slice A0 n0 c0, .slice A hs.length c, .slice A2 n2 c2, .int .i64 r, .int .i64 d] 58) #[.int .i64 0, nils, nils, nils, .int .i64 0, .int .i64 0] 58)
  have hsA : ((w.alloc (.cells #[.int .i64 N, .slice A0 n0 c0, .slice A hs.length c, .slice A2 n2 c2, .int .i64 r, .int .i64 d] 58)).alloc (.cells #[.int .i64 0, nils, nils, nils, .int .i64 0, .int .i64 0] 58)).heap.size = w.heap.size + 2 := by simp
  have HBA : Hid (Below w.heap.size w ((w.alloc (.cells #[.int .i64 N, .slice A0 n0 c0, .slice A hs.length c, .slice A2 n2 c2, .int .i64 r, .int .i64 d] 58)).alloc (.cells #[.int .i64 0, nils, nils, nils, .int .i64 0, .int .i64 0] 58))) := HB0.out.alloc (by simp) _
  go_enter Try.func53, Try.ntmps53
  go_wp2_with fail
  generalize (w.alloc (.cells #[.int .i64 N, .slice A0 n0 c0, .slice A hs.length c, .slice A2 n2 c2, .int .i64 r, .int .i64 d] 58)).alloc (.cells #[.int .i64 0, nils, nils, nils, .int .i64 0, .int .i64 0] 58) = wA at *
  have HSA := Lib.hid hsA
  clear hsA HB0
  go_loopg [7, 13] hs.length (fun gg out ctr wr => ∃ i : Nat, i ≤ hs.length ∧ gg = hs.length - i ∧ ctr = .int .i64 i ∧ wr.ownsRow wA.heap.size 90 3 out (heldOff (hs.take i) b n).length ((heldOff (hs.take i) b n).flatMap Hd.cells) ∧ Below wA.heap.size wA wr)
  case atStart => exact ⟨0, by omega, rfl, rfl, World.ownsRow_nil _ _ _ _, Below.refl _ _⟩
  case round =>
    obtain ⟨i, hi, rfl, rfl, ho, hb⟩ := hrel
    have HO := Lib.hid ho
    have HB := Lib.hid hb
    have HBW : Hid (Below w.heap.size w wr) := HBA.out.trans (hb.mono HBA.out.size)
    clear hb
    by_cases hlt : i < hs.length
    case neg =>
      obtain rfl : i = hs.length := by omega
      rw [List.take_length] at HO ho
      have HH := Lib.hid (Helds.of_own HO.out)
      have HNO := Lib.hid (NilOr.of_own ho)
      obtain ⟨Au, cu, rfl, _, _⟩ := own_form ho
      have ha := HA1.out.of_eq (HB.out.block _ (by rw [HSA.out]; omega))
      have hr := HA2.out.of_eq (HB.out.block _ (by rw [HSA.out]; omega))
      have a0 := ha.cell (k := 0) rfl
      have a1 := ha.cell (k := 1) rfl
      have a2 := ha.cell (k := 2) rfl
      have a3 := ha.cell (k := 3) rfl
      have a4 := ha.cell (k := 4) rfl
      have a5 := ha.cell (k := 5) rfl
      have f2 := ha.free 2
      have HBW1 := Lib.hid (HBW.out.setCell (p := ⟨w.heap.size, 2, none⟩) (Nat.le_refl _) (.slice Au (heldOff hs b n).length cu))
      have hb1 := ha.set 2 (.slice Au (heldOff hs b n).length cu)
      have hr1 := hr.far (p := ⟨w.heap.size, 2, none⟩) (by show w.heap.size + 1 ≠ w.heap.size; omega) (.slice Au (heldOff hs b n).length cu)
      have HH1 : Hid (Helds (wr.setCell ⟨w.heap.size, 2, none⟩ (.slice Au (heldOff hs b n).length cu)) (fun b => wA.heap.size ≤ b ∧ b < wr.heap.size) (.slice Au (heldOff hs b n).length cu) (heldOff hs b n)) := HH.out.same fun x hx => Below.heap_setCell _ _ _ _ (by have := hx.1; rw [HSA.out] at this; show x ≠ w.heap.size; omega)
      have hsz : (wr.setCell ⟨w.heap.size, 2, none⟩ (.slice Au (heldOff hs b n).length cu)).heap.size = wr.heap.size := by simp [World.setCell]
      go_upto_region 9 with fail
      generalize wr.setCell ⟨w.heap.size, 2, none⟩ (.slice Au (heldOff hs b n).length cu) = w2 at *
      clear a0 a1 a2 a3 a4 a5 f2 ha hr HA1 HA2
      have HSZ := Lib.hid hsz
      clear hsz
      have a0 := hb1.cell (k := 0) rfl
      have a1 := hb1.cell (k := 1) rfl
      have a2 := hb1.cell (k := 2) rfl
      have a3 := hb1.cell (k := 3) rfl
      have a4 := hb1.cell (k := 4) rfl
      have a5 := hb1.cell (k := 5) rfl
      have r0 := hr1.cell (k := 0) rfl
      have r1 := hr1.cell (k := 1) rfl
      have r2 := hr1.cell (k := 2) rfl
      have r3 := hr1.cell (k := 3) rfl
      have r4 := hr1.cell (k := 4) rfl
      have r5 := hr1.cell (k := 5) rfl
      have f0 := hr1.free 0
      have f1 := hr1.free 1
      have f2 := hr1.free 2
      have f3 := hr1.free 3
      have f4 := hr1.free 4
      have f5 := hr1.free 5
      have hq := (((((hr1.set 0 (.int .i64 N)).set 1 (.slice A0 n0 c0)).set 2 (.slice Au (heldOff hs b n).length cu)).set 3 (.slice A2 n2 c2)).set 4 (.int .i64 r)).set 5 (.int .i64 d)
      have q0 := hq.cell (k := 0) rfl
      have q1 := hq.cell (k := 1) rfl
      have q2 := hq.cell (k := 2) rfl
      have q3 := hq.cell (k := 3) rfl
      have q4 := hq.cell (k := 4) rfl
      have q5 := hq.cell (k := 5) rfl
      clear hq hr1 hb1
      go_wp2_with fail
      refine bodyPost_ret (v := .agg #[.int .i64 N, .slice A0 n0 c0, .slice Au (heldOff hs b n).length cu, .slice A2 n2 c2, .int .i64 r, .int .i64 d]) (by simp [results, Try.results53, go_sem, q0, q1, q2, q3, q4, q5]) rfl ⟨_, rfl, ?_, HNO.out, (((((HBW1.out.setCell (Nat.le_succ _) _).setCell (Nat.le_succ _) _).setCell (Nat.le_succ _) _).setCell (Nat.le_succ _) _).setCell (Nat.le_succ _) _).setCell (Nat.le_succ _) _⟩
      have hs2 : ∀ (q : Addr) (x : Value) (w : World), (w.setCell q x).heap.size = w.heap.size := fun _ _ _ => by simp [World.setCell]
      refine (HH1.out.same fun x hx => ?_).mono fun x hx => ⟨by have := hx.1; rw [HSA.out] at this; omega, by rw [hs2, hs2, hs2, hs2, hs2, hs2, HSZ.out]; exact hx.2⟩
      have hn : x ≠ w.heap.size + 1 := by have := hx.1; rw [HSA.out] at this; omega
      exact (((((Below.heap_setCell _ _ _ _ hn).trans (Below.heap_setCell _ _ _ _ hn)).trans (Below.heap_setCell _ _ _ _ hn)).trans (Below.heap_setCell _ _ _ _ hn)).trans (Below.heap_setCell _ _ _ _ hn)).trans (Below.heap_setCell _ _ _ _ hn)
    clear ho
    obtain ⟨bk, o, e, hbk, x0, x1, x2⟩ := hd_cells (hrow_of (HV.out.same (Same.of_below HBW.out))) hlt
    cases e
    have hbw : bk < wr.heap.size := Nat.lt_of_lt_of_le hbk HBW.out.size
    have HS : Hid (heldOff (hs.take (i + 1)) b n = heldOff (hs.take i) b n ++ if hs[i].at_ b n then [] else [hs[i]]) := by
      show _ = _
      rw [List.take_succ_eq_append_getElem hlt, heldOff_snoc]
    have hlen : (heldOff (hs.take i) b n).length ≤ 1000000 := by have := heldOff_len (hs.take i) b n; rw [List.length_take] at this; omega
    have HAT : Hid (hs[i].at_ b n = (hs[i].b == b && hs[i].n == n)) := rfl
    generalize hs[i] = x at *
    generalize hL : heldOff (hs.take i) b n = L at *
    have HL := Lib.hid hL
    clear hL
    have hcs : (x.b ≠ b) ∨ (x.b = b ∧ x.n ≠ n) ∨ (x.b = b ∧ x.n = n) := by omega
    rcases hcs with c1 | ⟨c1, c2⟩ | ⟨c1, c2⟩
    case inr.inr =>
      have q1 : (x.b != b) = false := by simpa using c1
      have q2 : (x.n != n) = false := by simpa using c2
      have HE : Hid (heldOff (hs.take (i + 1)) b n = L) := by show _ = _; rw [HS.out, HAT.out, c1, c2]; simp
      clear c1 c2
      go_wp2_with fail
      go_roundg (hs.length - (i + 1))
      case measure => omega
      case rel => exact ⟨i + 1, by omega, rfl, by go_num, by rw [HE.out]; exact own_al HO.out _, HB.out.alloc HB.out.size _⟩
    all_goals
      have HE : Hid (heldOff (hs.take (i + 1)) b n = L ++ [x]) := by show _ = _; rw [HS.out, HAT.out]; simp [c1]; try simp [c2]
      have q1 : (x.b != b) = true ∨ ((x.b != b) = false ∧ (x.n != n) = true) := by first | (left; simpa using c1) | (right; exact ⟨by simpa using c1, by simpa using c2⟩)
      clear c1
      try clear c2
      have HO2 : Hid ((wr.alloc (.cells #[.int .i64 x.l, .int .i64 x.b, .int .i64 x.n] 90)).ownsRow wA.heap.size 90 3 u7 L.length (L.flatMap Hd.cells)) := own_al HO.out _
      have HB2 : Hid (Below wA.heap.size wA (wr.alloc (.cells #[.int .i64 x.l, .int .i64 x.b, .int .i64 x.n] 90))) := HB.out.alloc HB.out.size _
      have y0 := (Arr.new wr #[.int .i64 x.l, .int .i64 x.b, .int .i64 x.n] 90).cell (k := 0) rfl
      have y1 := (Arr.new wr #[.int .i64 x.l, .int .i64 x.b, .int .i64 x.n] 90).cell (k := 1) rfl
      have y2 := (Arr.new wr #[.int .i64 x.l, .int .i64 x.b, .int .i64 x.n] 90).cell (k := 2) rfl
      first
        | rcases q1 with q1 | ⟨q1, q2⟩
      all_goals
        go_upto_region 6 with fail
        generalize wr.alloc (.cells #[.int .i64 x.l, .int .i64 x.b, .int .i64 x.n] 90) = w2 at *
        go_wp2_with (at_builtin
                     refine app_el T56 [.int .i64 x.l, .int .i64 x.b, .int .i64 x.n] HO2.out HB2.out (Nat.le_refl _) rfl rfl rfl rfl rfl ?_ ?_ ?_
                     rotate_right
                     intro v1 w1 hown1 hb1 hg1 ho1
                     have HF := Lib.hid (And.intro hown1 hb1)
                     clear hown1 hb1 hg1 ho1)
        case refine_1 => simp [Value.oneCell']
        case refine_2 => omega
        go_roundg (hs.length - (i + 1))
        case measure => omega
        case rel => exact ⟨i + 1, by omega, rfl, by go_num, by rw [HE.out, List.length_append, List.length_singleton, List.flatMap_append]; simpa [Hd.cells] using HF.out.1, HF.out.2⟩
end Go.Proofs.Ytaacfjeddoekfaa
