/- Chapter 11: a loop more. -/
import Derived.Test.YtaacfjeddoekfaaKnitWalk1
namespace Go.Proofs.Ytaacfjeddoekfaa
open Go.RowKit
set_option linter.unusedVariables false

set_option maxRecDepth 100000 in
set_option maxHeartbeats 1000000 in
/-- one loop more: 'm.loop(c, u)' -/
theorem loop_any {w0 w : World} {B p N : Nat} {m : MD} {k : KS} (h : MC w0 w B p N m k) (hl : k.loops.length ≤ 4096) (c : Int) {A : Option Addr} {un uc : Nat} (t : List Int) :
    Calls Try.prog 48 #[ptr p 0, .int .i64 c, .slice A un uc] w fun e w' => e = .returned (.int .i64 (k.loops.length : Int)) ∧ ∃ w1 v' z, w' = w1.setCell ⟨p, 0, none⟩ v' ∧ w.grownBy w1 m.vl.ownBlock ∧ w.heap.size ≤ z ∧
      Below B w0 w1 ∧ w1.ownsRow B 41 2 v' (k.loops.length + 1) (lrow k.loops m.tv ++ [.int .i64 c, .slice A un uc]) ∧ (v'.ownBlock = m.vl.ownBlock ∨ v'.ownBlock = some z) := by
  have c0 := h.cell (j := 0) rfl
  have hp : p < w.heap.size := h.arr.lt
  have HG : Hid (∀ g, m.vl.ownBlock = some g → g ≠ p) := fun g hg e => by
    have := h.rl g hg
    rw [e, h.rp] at this
    exact absurd this (by decide)
  have HA := Lib.hid h.arr
  have HO := Lib.hid h.ol
  have HB := Lib.hid h.below
  have hB := h.hB
  obtain ⟨Al, lc, e, h1, h2⟩ := own_form h.ol
  rw [e] at HG HO c0 ⊢
  clear h
  unfold maxLen at h2
  go_enter Try.func48, Try.ntmps48
  go_wp2_with (at_builtin
               refine app_el T23 [.int .i64 c, .slice A un uc] HO.out HB.out hB rfl rfl rfl rfl rfl ?_ ?_ ?_
               rotate_right
               intro v1 w1 hown1 hb1 hg1 ho1
               have HA1 := Lib.hid (HA.out.grown hg1 (by cases hq : Value.ownBlock (.slice Al k.loops.length lc) with | none => simp | some g => intro e; injection e with e; exact HG.out g hq e))
               have c1 := HA1.out.cell (k := 0) rfl
               have z1 := HA1.out.free 0
               obtain ⟨A1, lc1, e, h3, h4⟩ := own_form hown1
               rw [e] at hown1 ho1 ⊢
               unfold maxLen at h4
               have HF := Lib.hid (And.intro hown1 (And.intro hb1 (And.intro hg1 ho1)))
               clear hown1 hb1 hg1 ho1 e)
  case refine_1 => simp [Value.oneCell']
  case refine_2 => omega
  go_ret
  exact ⟨rfl, _, _, w.heap.size + 1, rfl, HF.out.2.2.1, by omega, HF.out.2.1, HF.out.1, HF.out.2.2.2⟩

/-- 'append(s, l...)' in a plain region: m elements that lie from place p of block g on -/
theorem app_els {P : Program} {w w0 : World} {ops : Array Oper} {rest : List Oper} {o : Oper} {a : Act} {Q : Exit → Act → World → Prop} {s x : Operand} {t e : TypeId} {z : Value} {size bytes : Nat}
    (T : SliceT P t e z size bytes) (us : List Value) {base : Nat} {v : Value} {n m g p c : Nat} {xs : List Value}
    (hown : w.ownsRow base e size v n xs) (hb : Below base w0 w) (hbase : base ≤ w0.heap.size)
    (hgd : o.guard = none)
    (ho : o.op = .call { callee := .builtin .append, args := #[s, x], argTypes := #[t, t] })
    (hs : a.eval s = v) (hx : a.eval x = .slice (some ⟨g, p, none⟩) m c)
    (hl : us.length = m * size) (hnews : ∀ j u, us[j]? = some u → w.cell? ⟨g, p + j, none⟩ = some u) (h1 : ∀ u ∈ us, u.oneCell' = true) (hbytes : (n + m) * bytes ≤ 140737488355328)
    (h : ∀ v' w', w'.ownsRow base e size v' (n + m) (xs ++ us) → Below base w0 w' → w.grownBy w' v.ownBlock → (v'.ownBlock = v.ownBlock ∨ v'.ownBlock = some w.heap.size) →
      wpList P ops Q rest (a.put o.dst v') w') : wpList P ops Q (o :: rest) a w :=
  wpList_plain hgd fun K hK => wp_app T us hown hb hbase ho hs hx hl hnews h1 hbytes fun v' w' h2 h3 h4 h5 => hK _ _ (h v' w' h2 h3 h4 h5)
theorem ints_one (xs : List Int) : ∀ u ∈ ints xs, u.oneCell' = true := by
  intro u hu
  obtain ⟨x, _, rfl⟩ := List.mem_map.1 hu
  rfl
theorem ints_len (xs : List Int) : (ints xs).length = xs.length := by simp [ints]
theorem ints_app (xs ys : List Int) : ints (xs ++ ys) = ints xs ++ ints ys := List.map_append
/-- an owned slice is nil, or begins its own block -/
theorem own_nil_or {w : World} {base : Nat} {e : TypeId} {size n : Nat} {v : Value} {xs : List Value} (h : w.ownsRow base e size v n xs) :
    (v = .slice none 0 0 ∧ n = 0) ∨ ∃ g c, v = .slice (some ⟨g, 0, none⟩) n c ∧ g < w.heap.size ∧ n ≤ c ∧ c ≤ maxLen ∧ ∀ j u, xs[j]? = some u → w.cell? ⟨g, 0 + j, none⟩ = some u := by
  rcases h.2 with h0 | ⟨g, cap, cur, rfl, hb, hg, hn, hm, _⟩
  · exact .inl h0
  · refine .inr ⟨g, cap, rfl, (Array.getElem?_eq_some_iff.1 hg).1, hn, hm, fun j u hu => ?_⟩
    have := h.cells (g := g) rfl j u hu
    unfold Addr.add at this
    split at this
    · next h0 => subst h0; simpa using this
    · simpa using this

set_option maxRecDepth 100000 in
set_option maxHeartbeats 1000000 in
theorem clone_any {B : Nat} {v : Value} {xs : List Int} (w : World) (hv : w.ownsRow B 3 1 v xs.length (ints xs)) (hx : xs.length ≤ 1000000000) :
    Calls Try.prog 50 #[v] w fun e w' => ∃ u, e = .returned u ∧ Ints w' (fun b => w.heap.size ≤ b ∧ b < w'.heap.size) u xs ∧ Below w.heap.size w w' := by
  have qT : ∀ (w : World) (a : Option Addr) (n c n' c' : Nat), (binOp .eql 25 (.slice a n c) (.slice none n' c')).run Try.prog w = .ok (.bool a.isNone) w := fun w a n c n' c' => Lib.run_eql_slice_nil w _ _ a n c n' c' Try.underlying25
  rcases own_nil_or hv with ⟨rfl, h0⟩ | ⟨g, c, rfl, hg, h1, h2, hc⟩
  · have hz : xs = [] := List.length_eq_zero_iff.1 h0
    subst hz
    go_enter Try.func50, Try.ntmps50
    go_wp2_with fail
    go_ret
    exact ⟨_, rfl, Ints.nil _ _, Below.refl _ _⟩
  · have HO : Hid ((w.alloc (.cells #[] 3)).ownsRow w.heap.size 3 1 (.slice (some ⟨w.heap.size, 0, none⟩) 0 0) 0 []) := World.ownsRow_lit (base := w.heap.size) (e := 3) (size := 1) w #[] 0 (Nat.le_refl _) (by simp [maxLen]) rfl
    have HBE : Hid (Below w.heap.size w (w.alloc (.cells #[] 3))) := (Below.refl _ _).alloc (Nat.le_refl _) _
    have HN : Hid (∀ j u, (ints xs)[j]? = some u → (w.alloc (.cells #[] 3)).cell? ⟨g, 0 + j, none⟩ = some u) := fun j u hu => by
      rw [World.cell?_alloc_lt _ _ _ (by exact hg)]; exact hc j u hu
    have HL : Hid ((ints xs).length = xs.length * 1) := by show _ = _; rw [ints_len, Nat.mul_one]
    clear hc hv
    unfold maxLen at h2
    go_enter Try.func50, Try.ntmps50
    go_wp2_with (at_builtin
                 refine app_els T25 (ints xs) HO.out HBE.out (Nat.le_refl _) rfl rfl rfl rfl HL.out HN.out (ints_one xs) ?_ ?_
                 rotate_right
                 intro v1 w1 hown1 hb1 hg1 ho1
                 rw [Nat.zero_add, List.nil_append] at hown1
                 obtain ⟨A1, lc1, rfl, h3, h4⟩ := own_form hown1
                 have HF := Lib.hid (And.intro hown1 hb1)
                 clear hown1 hb1 hg1 ho1)
    case refine_1 => omega
    go_ret
    exact ⟨_, rfl, Ints.of_own HF.out.1, HF.out.2⟩
end Go.Proofs.Ytaacfjeddoekfaa
