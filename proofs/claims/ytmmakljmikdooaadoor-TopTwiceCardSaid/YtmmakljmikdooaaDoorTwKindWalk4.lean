import Derived.Test.YtmmakljmikdooaaDoorTwKindWalk3
import Derived.Test.YtmmakljmikdooaaDoorTw2
/- Chapter 4: laws for look's maps. -/
namespace Go.Proofs.YtmmakljmikdooaaDoor
open Go.RowKit Go.Maps
set_option linter.unusedVariables false
set_option linter.unusedSimpArgs false

theorem K3 : Keyed Tryd.prog 3 := int_keyed Tryd.underlying3
theorem zero87 (w : World) : (zeroValue 87).run Tryd.prog w = .ok (.agg #[.bool false, .bool false]) w := by kernel_rfl
theorem kt_wf {t : Nat} (h : t ≤ 6) : (Lit.int .i64 (t : Int)).wf = true := WalkArith.wf_i64 (by omega)
theorem kt_of {t : Nat} (h : t ≤ 6) : keyOf Tryd.prog 3 (.int .i64 (t : Int)) = some (kt t) := keyOf_int_mk Tryd.underlying3 (kt_wf h)
theorem grown_none {w w' : World} (h : Below w.heap.size w w') : w.grownBy w' none := ⟨h.os, h.tape, h.output, h.size, fun i hi _ => h.block i hi⟩
/-- what look's loop keeps -/
structure LookS (w1 wr : World) (bw bs bt i : Nat) (X x Y : Int) (W : List (Nat × (Bool × Bool))) (T : List (Nat × Unit)) : Prop where
  sight : Arr wr bs 82 [.int .i64 0, .map (some bw), .int .i64 X, .int .i64 0, .int .i64 x, .int .i64 Y]
  ways : ∃ D : DU, wr.ownsMap Tryd.prog 3 wayElem bw i D ∧ MapL wayD D W
  turns : ∃ D : DU, wr.ownsMap Tryd.prog 3 (plainElem Tryd.prog 4) bt i D ∧ MapL oneD D T
  old : Below w1.heap.size w1 wr
section
variable {w1 wr w' : World} {bw bs bt i : Nat} {X x Y : Int} {W : List (Nat × (Bool × Bool))} {T : List (Nat × Unit)}
theorem LookS.call (h : LookS w1 wr bw bs bt i X x Y W T) (hb : Below wr.heap.size wr w') : LookS w1 w' bw bs bt i X x Y W T := by
  obtain ⟨D, h1, h2⟩ := h.ways
  obtain ⟨E, h3, h4⟩ := h.turns
  exact ⟨h.sight.of_eq (hb.block _ h.sight.lt), ⟨D, h1.kept (grown_none hb) (by simp), h2⟩, ⟨E, h3.kept (grown_none hb) (by simp), h4⟩, h.old.trans (hb.mono h.old.size)⟩
theorem LookS.next (h : LookS w1 wr bw bs bt i X x Y W T) : LookS w1 wr bw bs bt (i + 1) X x Y W T := by
  obtain ⟨D, h1, h2⟩ := h.ways
  obtain ⟨E, h3, h4⟩ := h.turns
  exact ⟨h.sight, ⟨D, h1.mono (by omega), h2⟩, ⟨E, h3.mono (by omega), h4⟩, h.old⟩
theorem LookS.turn (h : LookS w1 wr bw bs bt i X x Y W T) {T' : List (Nat × Unit)} {E : DU} (hg : wr.grownBy w' (some bt)) (h1 : bt ≠ bw) (h2 : bt ≠ bs) (h3 : w1.heap.size ≤ bt) (hE : w'.ownsMap Tryd.prog 3 (plainElem Tryd.prog 4) bt (i + 1) E) (hT : MapL oneD E T') : LookS w1 w' bw bs bt (i + 1) X x Y W T' := by
  obtain ⟨D, k1, k2⟩ := h.ways
  exact ⟨h.sight.grown hg (by simpa using h2), ⟨D, (k1.kept hg (by simpa using h1.symm)).mono (by omega), k2⟩, ⟨E, hE, hT⟩, h.old.grown hg h.old.size (fun k e => by cases e; exact h3)⟩
theorem LookS.way (h : LookS w1 wr bw bs bt i X x Y W T) {W' : List (Nat × (Bool × Bool))} {E : DU} (hg : wr.grownBy w' (some bw)) (h1 : bt ≠ bw) (h2 : bw ≠ bs) (h3 : w1.heap.size ≤ bw) (hE : w'.ownsMap Tryd.prog 3 wayElem bw (i + 1) E) (hT : MapL wayD E W') : LookS w1 w' bw bs bt (i + 1) X x Y W' T := by
  obtain ⟨D, k1, k2⟩ := h.turns
  exact ⟨h.sight.grown hg (by simpa using h2), ⟨E, hE, hT⟩, ⟨D, (k1.kept hg (by simpa using h1)).mono (by omega), k2⟩, h.old.grown hg h.old.size (fun k e => by cases e; exact h3)⟩
end
section
variable {w : World} {ops : Array Oper} {rest : List Oper} {o : Oper} {a : Act} {Q : Exit → Act → World → Prop}
/-- 'v, ok := ways[t]' -/
theorem wp_look_way (hg : o.guard = none) (m x : Operand) (hop : o.op = Op.lookup 76 m x true) (b n : Nat) (D : DU) (t : Nat) (ht : t ≤ 6)
    (hm : a.eval m = .map (some b)) (hown : w.ownsMap Tryd.prog 3 wayElem b n D) (hx : a.eval x = .int .i64 (t : Int))
    (hK : ∀ p : Bool × Bool, wpList Tryd.prog ops Q rest (a.put o.dst (.tuple #[.agg #[.bool p.1, .bool p.2], .bool (Maps.has D (kt t))])) w) : wpList Tryd.prog ops Q (o :: rest) a w :=
  wpList_lookup_own_ok w hg m x 76 hop 3 87 K3 Tryd.underlying76 wayElem (zero87 w) (wayD (false, false)) [] rfl b n D hm hown _ (kt t) hx (kt_of ht) (fun v ps hv => by
    obtain ⟨p, rfl, _⟩ := wayElem_inv hv
    exact hK p)
/-- 'turns[t] = true' -/
theorem wp_put_turn (hg : o.guard = none) (m x v : Operand) (hop : o.op = Op.mapUpdate 119 m x v) (b n : Nat) (D : DU) (t : Nat) (ht : t ≤ 6)
    (hm : a.eval m = .map (some b)) (hown : w.ownsMap Tryd.prog 3 (plainElem Tryd.prog 4) b n D) (hn : n < maxLen) (hx : a.eval x = .int .i64 (t : Int)) (hv : a.eval v = .bool true)
    (hK : ∀ w', w'.ownsMap Tryd.prog 3 (plainElem Tryd.prog 4) b (n + 1) (D.put (kt t) (oneD ())) → w.grownBy w' (some b) → wpList Tryd.prog ops Q rest (a.put o.dst undef) w') : wpList Tryd.prog ops Q (o :: rest) a w :=
  wpList_mapUpdate_own w hg m x v 119 hop 3 4 K3 Tryd.underlying119 _ b n D hm hown hn _ _ (kt t) hx hv (kt_of ht) (oneD ()) [] (plainElem_bool Tryd.underlying4 true) hK
end
theorem run_put_way {w : World} {b n t : Nat} {D : DU} (ht : t ≤ 6) (p : Bool × Bool) (hown : w.ownsMap Tryd.prog 3 wayElem b n D) (hn : n < maxLen) :
    ∃ w', (Instr.mapUpdate 76 (.map (some b)) (.int .i64 (t : Int)) (.agg #[.bool p.1, .bool p.2])).run Tryd.prog w = .ok () w' ∧ w'.ownsMap Tryd.prog 3 wayElem b (n + 1) (D.put (kt t) (wayD p)) ∧ w.grownBy w' (some b) :=
  hown.update K3 Tryd.underlying76 hn (kt_of ht) (wayElem_mk p)
end Go.Proofs.YtmmakljmikdooaaDoor
