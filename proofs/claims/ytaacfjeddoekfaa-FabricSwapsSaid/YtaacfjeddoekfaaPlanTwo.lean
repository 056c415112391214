/- 'x = append(append([]T{}, l...), y)': two slices are built, two appends, one store: the three orders, once. -/
import Derived.Test.YtaacfjeddoekfaaPlanT
namespace Go.Proofs.Ytaacfjeddoekfaa
open Go.RowKit
set_option linter.unusedVariables false

theorem own_built (w : World) (base : Nat) (e : TypeId) (size : Nat) (hb : base ≤ w.heap.size) : (w.alloc (.cells #[] e)).ownsRow base e size (.slice (some ⟨w.heap.size, 0, none⟩) 0 0) 0 [] :=
  ⟨by simp, .inr ⟨w.heap.size, 0, #[], rfl, hb, heap_alloc_new _ _, Nat.le_refl _, by simp [maxLen], by simp, by simp⟩⟩
/-- the three orders of two slices built and two appends -/
def PT2 (b0 a1 b1 a2 : Nat) (r : PT) : PT :=
  .two b0 (.two a1 (.one b1 (.one a2 r)) b1 (.one a1 (.one a2 r))) b1 (.one b0 (.one a1 (.one a2 r)))
theorem news_built {w : World} {us : Array Value} {e : TypeId} {m c : Nat} : News (w.alloc (.cells us e)) (.slice (some ⟨w.heap.size, 0, none⟩) m c) m us.toList :=
  .inr ⟨_, 0, c, rfl, fun j x hx => by rw [Nat.zero_add]; exact (Arr.new w us e).cell hx⟩

section
variable {P : Program} {ops : Array Oper} {S : World → Prop} {Q : Exit → Act → World → Prop} {z : Nat}
theorem planT_two_app {a : Act} {w wz : World} {b0 a1 b1 a2 : Nat} {r : PT} (o0 o1 o2 o3 : Oper) {s1 x1 s3 x3 : Operand} {t e : TypeId} {zv u : Value} {size bytes m m2 : Nat}
    (T : SliceT P t e zv size bytes) (us : List Value) (us2 : Array Value)
    (l0 : ops.toList[b0]? = some o0) (l1 : ops.toList[a1]? = some o1) (l2 : ops.toList[b1]? = some o2) (l3 : ops.toList[a2]? = some o3)
    (g0 : o0.guard = none) (g1 : o1.guard = none) (g2 : o2.guard = none) (g3 : o3.guard = none)
    (hb : Below wz.heap.size wz w) (hS : ∀ w', Below wz.heap.size wz w' → S w')
    (p1 : o1.op = .call { callee := .builtin .append, args := #[s1, x1], argTypes := #[t, t] }) (p3 : o3.op = .call { callee := .builtin .append, args := #[s3, x3], argTypes := #[t, t] })
    (e0 : ∀ w, (execOp a.eval o0).run P w = .ok (.value (.slice (some ⟨w.heap.size, 0, none⟩) 0 0)) (w.alloc (.cells #[] e)))
    (e0' : ∀ v2 w, (execOp (a.put o2.dst v2).eval o0).run P w = .ok (.value (.slice (some ⟨w.heap.size, 0, none⟩) 0 0)) (w.alloc (.cells #[] e)))
    (e2 : ∀ w, (execOp a.eval o2).run P w = .ok (.value (.slice (some ⟨w.heap.size, 0, none⟩) m2 m2)) (w.alloc (.cells us2 e)))
    (e2a : ∀ v0 w, (execOp (a.put o0.dst v0).eval o2).run P w = .ok (.value (.slice (some ⟨w.heap.size, 0, none⟩) m2 m2)) (w.alloc (.cells us2 e)))
    (e2b : ∀ v0 v1 w, (execOp ((a.put o0.dst v0).put o1.dst v1).eval o2).run P w = .ok (.value (.slice (some ⟨w.heap.size, 0, none⟩) m2 m2)) (w.alloc (.cells us2 e)))
    (sa : ∀ v0, (a.put o0.dst v0).eval s1 = v0) (sb : ∀ v0 v2, ((a.put o0.dst v0).put o2.dst v2).eval s1 = v0) (sc : ∀ v0 v2, ((a.put o2.dst v2).put o0.dst v0).eval s1 = v0)
    (xa : ∀ v0, (a.put o0.dst v0).eval x1 = u) (xb : ∀ v0 v2, ((a.put o0.dst v0).put o2.dst v2).eval x1 = u) (xc : ∀ v0 v2, ((a.put o2.dst v2).put o0.dst v0).eval x1 = u)
    (ta : ∀ v0 v1 v2, (((a.put o0.dst v0).put o1.dst v1).put o2.dst v2).eval s3 = v1) (tb : ∀ v0 v1 v2, (((a.put o0.dst v0).put o2.dst v2).put o1.dst v1).eval s3 = v1) (tc : ∀ v0 v1 v2, (((a.put o2.dst v2).put o0.dst v0).put o1.dst v1).eval s3 = v1)
    (ya : ∀ v0 v1 v2, (((a.put o0.dst v0).put o1.dst v1).put o2.dst v2).eval x3 = v2) (yb : ∀ v0 v1 v2, (((a.put o0.dst v0).put o2.dst v2).put o1.dst v1).eval x3 = v2) (yc : ∀ v0 v1 v2, (((a.put o2.dst v2).put o0.dst v0).put o1.dst v1).eval x3 = v2)
    (hu : News wz u m us) (hl : us.length = m * size) (h1 : ∀ u ∈ us, u.oneCell' = true) (hl2 : us2.size = m2 * size) (h2 : ∀ u ∈ us2.toList, u.oneCell' = true) (hby : (m + m2) * bytes ≤ 140737488355328)
    (K : ∀ v' w', w'.ownsRow wz.heap.size e size v' (0 + m + m2) ([] ++ us ++ us2.toList) → Below wz.heap.size wz w' →
      (∀ v0 v1 v2, PlanT P ops Q S z r ((((a.put o0.dst v0).put o1.dst v1).put o2.dst v2).put o3.dst v') w') ∧
      (∀ v0 v1 v2, PlanT P ops Q S z r ((((a.put o0.dst v0).put o2.dst v2).put o1.dst v1).put o3.dst v') w') ∧
      (∀ v0 v1 v2, PlanT P ops Q S z r ((((a.put o2.dst v2).put o0.dst v0).put o1.dst v1).put o3.dst v') w')) :
    PlanT P ops Q S z (PT2 b0 a1 b1 a2 r) a w := by
  have G : ∀ {o : Oper} (f : Nat → Option Bool), o.guard = none → Region.wanted o f = true := fun f h => by unfold Region.wanted; rw [h]
  have hl2' : us2.toList.length = m2 * size := by simpa using hl2
  have A : ∀ {w1 : World} (_ : Below wz.heap.size wz w1) (o : Obj), Below wz.heap.size wz (w1.alloc o) := fun h o => h.alloc h.size _
  refine planT_two ?_ ?_
  · refine planT_do o0 _ _ l0 (G _ g0) (e0 w) (.inr (hS _ (A hb _))) ?_
    have ho := own_built w wz.heap.size e size hb.size
    refine planT_two ?_ ?_
    · refine planT_appA o1 T us ho (A hb _) (Nat.le_refl _) l1 (G _ g1) p1 (sa _) (xa _) (hu.keep (A hb _).block) hl h1 (by rw [Nat.zero_add]; exact Nat.le_trans (Nat.mul_le_mul_right _ (Nat.le_add_right _ _)) hby) ?_
      intro v1 w1 ho1 hb1 _ _
      refine ⟨.inr (hS _ hb1), ?_⟩
      refine planT_do o2 _ _ l2 (G _ g2) (e2b _ _ _) (.inr (hS _ (A hb1 _))) ?_
      refine planT_appA o3 T us2.toList (own_al ho1 _) (A hb1 _) (Nat.le_refl _) l3 (G _ g3) p3 (ta _ _ _) (ya _ _ _) news_built hl2' h2 (by rw [Nat.zero_add]; exact hby) ?_
      intro v' w' ho' hb' _ _
      exact ⟨.inr (hS _ hb'), (K v' w' ho' hb').1 _ _ _⟩
    · refine planT_do o2 _ _ l2 (G _ g2) (e2a _ _) (.inr (hS _ (A (A hb _) _))) ?_
      refine planT_appA o1 T us (own_al ho _) (A (A hb _) _) (Nat.le_refl _) l1 (G _ g1) p1 (sb _ _) (xb _ _) (hu.keep (A (A hb _) _).block) hl h1 (by rw [Nat.zero_add]; exact Nat.le_trans (Nat.mul_le_mul_right _ (Nat.le_add_right _ _)) hby) ?_
      intro v1 w1 ho1 hb1 hg1 _
      have hn : News w1 (.slice (some ⟨(w.alloc (.cells #[] e)).heap.size, 0, none⟩) m2 m2) m2 us2.toList := by
        refine .inr ⟨_, 0, m2, rfl, fun j x hx => ?_⟩
        refine (World.cell?_of_block (a := ⟨(w.alloc (.cells #[] e)).heap.size, 0 + j, none⟩) (hg1.block _ (by simp) (fun h => by simp [Value.ownBlock] at h))).trans ?_
        rw [Nat.zero_add]; exact (Arr.new _ us2 e).cell hx
      refine ⟨.inr (hS _ hb1), ?_⟩
      refine planT_appA o3 T us2.toList ho1 hb1 (Nat.le_refl _) l3 (G _ g3) p3 (tb _ _ _) (yb _ _ _) hn hl2' h2 (by rw [Nat.zero_add]; exact hby) ?_
      intro v' w' ho' hb' _ _
      exact ⟨.inr (hS _ hb'), (K v' w' ho' hb').2.1 _ _ _⟩
  · refine planT_do o2 _ _ l2 (G _ g2) (e2 _) (.inr (hS _ (A hb _))) ?_
    refine planT_do o0 _ _ l0 (G _ g0) (e0' _ _) (.inr (hS _ (A (A hb _) _))) ?_
    have ho := own_built (w.alloc (.cells us2 e)) wz.heap.size e size (A hb _).size
    refine planT_appA o1 T us ho (A (A hb _) _) (Nat.le_refl _) l1 (G _ g1) p1 (sc _ _) (xc _ _) (hu.keep (A (A hb _) _).block) hl h1 (by rw [Nat.zero_add]; exact Nat.le_trans (Nat.mul_le_mul_right _ (Nat.le_add_right _ _)) hby) ?_
    intro v1 w1 ho1 hb1 hg1 _
    have hn : News w1 (.slice (some ⟨w.heap.size, 0, none⟩) m2 m2) m2 us2.toList := by
      refine .inr ⟨_, 0, m2, rfl, fun j x hx => ?_⟩
      refine (World.cell?_of_block (a := ⟨w.heap.size, 0 + j, none⟩) (hg1.block _ (by simp; omega) (fun h => by simp [Value.ownBlock] at h))).trans ?_
      rw [World.cell?_alloc_lt _ _ _ (by simp)]
      rw [Nat.zero_add]; exact (Arr.new _ us2 e).cell hx
    refine ⟨.inr (hS _ hb1), ?_⟩
    refine planT_appA o3 T us2.toList ho1 hb1 (Nat.le_refl _) l3 (G _ g3) p3 (tc _ _ _) (yc _ _ _) hn hl2' h2 (by rw [Nat.zero_add]; exact hby) ?_
    intro v' w' ho' hb' _ _
    exact ⟨.inr (hS _ hb'), (K v' w' ho' hb').2.2 _ _ _⟩
end
end Go.Proofs.Ytaacfjeddoekfaa
