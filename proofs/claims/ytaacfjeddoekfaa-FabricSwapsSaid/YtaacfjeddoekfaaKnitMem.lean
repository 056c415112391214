/- Chapter 11: a machine in memory. -/
import Derived.Test.YtaacfjeddoekfaaKnitPlain
namespace Go.Proofs.Ytaacfjeddoekfaa
open Go.RowKit
set_option linter.unusedVariables false

abbrev nils : Value := .slice none 0 0
/-- whose a block is -/
abbrev Role := Nat × Int × Int
def Sep (v : Value) (r : Role) (own : Nat → Role) : Prop := ∀ g, v.ownBlock = some g → own g = r
def ow (own : Nat → Role) (z : Nat) (r : Role) : Nat → Role := fun x => if x = z then r else own x
theorem ow_same (own : Nat → Role) (z : Nat) (r : Role) : ow own z r z = r := if_pos rfl
theorem ow_ne (own : Nat → Role) {z x : Nat} (r : Role) (h : x ≠ z) : ow own z r x = own x := if_neg h
/-- only blocks of one role have turned -/
structure Kept (own : Nat → Role) (r : Role) (w w' : World) : Prop where
  size : w.heap.size ≤ w'.heap.size
  block : ∀ g, g < w.heap.size → own g ≠ r → w'.heap[g]? = w.heap[g]?
section
variable {own own' : Nat → Role} {r r' : Role} {w w' w'' : World} {B : Nat} {e : TypeId} {size n g : Nat} {v v' : Value} {xs : List Value} {t : TypeId}
theorem Kept.refl (own : Nat → Role) (r : Role) (w : World) : Kept own r w w := ⟨Nat.le_refl _, fun _ _ _ => rfl⟩
theorem Kept.of_below (own : Nat → Role) (r : Role) (h : Below w.heap.size w w') : Kept own r w w' := ⟨h.size, fun g hg _ => h.block g hg⟩
theorem Kept.trans (h : Kept own r w w') (k : Kept own r w' w'') : Kept own r w w'' := ⟨Nat.le_trans h.size k.size, fun g hg hn => (k.block g (Nat.lt_of_lt_of_le hg h.size) hn).trans (h.block g hg hn)⟩
theorem Kept.of_grown {row : Option Nat} (h : w.grownBy w' row) (hr : ∀ g, row = some g → own g = r) : Kept own r w w' :=
  ⟨h.size, fun g hg hn => h.block g hg fun e => hn (hr g e.symm)⟩
theorem Kept.set (k : Nat) (u : Value) (hg : own g = r) : Kept own r w (w.setCell ⟨g, k, none⟩ u) := .of_grown (grownBy_set w g k u) fun g' e => by cases e; exact hg
theorem Kept.row (h : Kept own r w w') (hv : w.ownsRow B e size v n xs) (hs : Sep v r' own) (hne : r' ≠ r) : w'.ownsRow B e size v n xs := by
  refine ⟨hv.1, ?_⟩
  rcases hv.2 with hn | ⟨g, cap, cur, rfl, hb, hgg, rest⟩
  · exact .inl hn
  · refine .inr ⟨g, cap, cur, rfl, hb, ?_, rest⟩
    rw [h.block g (Array.getElem?_eq_some_iff.1 hgg).1 (by rw [hs g rfl]; exact hne)]
    exact hgg
theorem Kept.arr (h : Kept own r w w') (ha : Arr w g t xs) (hne : own g ≠ r) : Arr w' g t xs := ha.of_eq (h.block g ha.lt hne)
theorem Sep.nil (r : Role) (own : Nat → Role) : Sep (.slice none 0 0) r own := fun g h => by cases h
theorem Sep.turn (h : Sep v r own) (hv : w.ownsRow B e size v n xs) (ho : ∀ g, g < w.heap.size → own g ≠ r' → own' g = own g) (hne : r ≠ r') : Sep v r own' := fun g hg => by
  rw [ho g (hv.lt g hg).2 (by rw [h g hg]; exact hne)]; exact h g hg
theorem Sep.app {z : Nat} (h : Sep v r own) (hv : w.ownsRow B e size v n xs) (hz : w.heap.size ≤ z) (he : v'.ownBlock = v.ownBlock ∨ v'.ownBlock = some z) : Sep v' r (ow own z r) := fun g hg => by
  rcases he with he | he
  · rw [he] at hg
    rw [ow_ne own r (by have := (hv.lt g hg).2; omega)]; exact h g hg
  · rw [he] at hg; cases hg; exact ow_same own z r
theorem ow_old {z : Nat} (hz : w.heap.size ≤ z) : ∀ g, g < w.heap.size → own g ≠ r' → ow own z r' g = own g := fun g hg _ => ow_ne own r' (by omega)
theorem ow_old' {z : Nat} (r'' : Role) (hz : w.heap.size ≤ z) : ∀ g, g < w.heap.size → own g ≠ r' → ow own z r'' g = own g := fun g hg _ => ow_ne own r'' (by omega)
end

/-- the parts of a machine in memory -/
structure MD where
  own : Nat → Role
  vl : Value
  vo : Value
  gb : Int → Nat
  hv : Int → Int → Value
  tv : Nat → Value
abbrev rM : Role := (0, 0, 0)
abbrev rB (b : Int) : Role := (1, b, 0)
abbrev rL : Role := (2, 0, 0)
abbrev rO : Role := (3, 0, 0)
abbrev rN (b n : Int) : Role := (4, b, n)
abbrev rT (i : Nat) : Role := (5, (i : Int), 0)
abbrev rX : Role := (6, 0, 0)
/-- what is not the machine's is as it was -/
def Fr (m : MD) (w : World) (m' : MD) (w' : World) : Prop := w.heap.size ≤ w'.heap.size ∧ ∀ b, b < w.heap.size → m.own b = rX → m'.own b = rX ∧ w'.heap[b]? = w.heap[b]?
theorem Fr.trans {m m' m'' : MD} {w w' w'' : World} (h : Fr m w m' w') (k : Fr m' w' m'' w'') : Fr m w m'' w'' :=
  ⟨Nat.le_trans h.1 k.1, fun b hb hx => by
    obtain ⟨h1, h2⟩ := h.2 b hb hx
    obtain ⟨k1, k2⟩ := k.2 b (Nat.lt_of_lt_of_le hb h.1) h1
    exact ⟨k1, k2.trans h2⟩⟩
theorem Fr.keep (m : MD) {w w' : World} (hb : Below w.heap.size w w') : Fr m w m w' := ⟨hb.size, fun b h hx => ⟨hx, hb.block b h⟩⟩
theorem Fr.step {m m' : MD} {w w1 : World} {r : Role} (K : Kept m.own r w w1) (hr : r ≠ rX) {q j : Nat} {u : Value} (hq : m.own q ≠ rX) (ho : ∀ b, b < w.heap.size → m.own b = rX → m'.own b = rX) : Fr m w m' (w1.setCell ⟨q, j, none⟩ u) :=
  ⟨by have := K.size; simpa [World.setCell] using this, fun b hb hx => ⟨ho b hb hx, (Below.heap_setCell _ _ _ _ (fun e => hq (by rw [← show b = q from e]; exact hx))).trans (K.block b hb (by rw [hx]; exact hr.symm))⟩⟩
def noLop : Lop := ⟨0, []⟩
def ints (xs : List Int) : List Value := xs.map (Value.int .i64)
def lrow (ls : List Lop) (tv : Nat → Value) : List Value := (List.range ls.length).flatMap fun i => [.int .i64 (ls.getD i noLop).car, tv i]
theorem lrow_len (ls : List Lop) (tv : Nat → Value) : (lrow ls tv).length = ls.length * 2 := by
  unfold lrow
  rw [flat_len (n := 2) (fun _ => rfl), List.length_range]
theorem lrow_snoc (ls : List Lop) (tv : Nat → Value) (l : Lop) (u : Value) : lrow (ls ++ [l]) (fun i => if i = ls.length then u else tv i) = lrow ls tv ++ [.int .i64 l.car, u] := by
  unfold lrow
  rw [List.length_append, List.length_singleton, List.range_succ, List.flatMap_append]
  congr 1
  · show List.flatten (List.map _ _) = List.flatten (List.map _ _)
    congr 1
    refine List.map_congr_left fun i hi => ?_
    have hi' : i < ls.length := by simpa using hi
    dsimp only
    rw [if_neg (by omega)]
    simp [hi', List.getElem?_append_left]
  · simp
def mcells (m : MD) (N : Nat) (k : KS) : List Value := [m.vl, .slice (some ⟨m.gb 0, 0, none⟩) N N, .slice (some ⟨m.gb 1, 0, none⟩) N N, m.vo, .int .i64 k.rack, .int .i64 (k.done : Int)]
def brow (m : MD) (N : Nat) (b : Int) : List Value := (List.range N).map fun j : Nat => m.hv b (j : Int)
/-- what stands of a machine, but for what loops were pulled through -/
structure MC (w0 w : World) (B p N : Nat) (m : MD) (k : KS) : Prop where
  below : Below B w0 w
  hB : B ≤ w0.heap.size
  arr : Arr w p 78 (mcells m N k)
  pB : B ≤ p
  bed : ∀ b, b = 0 ∨ b = 1 → Arr w (m.gb b) 25 (brow m N b) ∧ B ≤ m.gb b
  ol : w.ownsRow B 41 2 m.vl k.loops.length (lrow k.loops m.tv)
  oo : w.ownsRow B 3 1 m.vo k.loose.length (ints k.loose)
  on : ∀ b n, w.ownsRow B 3 1 (m.hv b n) (k.on b n).length (ints (k.on b n))
  rp : m.own p = rM
  rb : ∀ b, b = 0 ∨ b = 1 → m.own (m.gb b) = rB b
  rl : Sep m.vl rL m.own
  ro : Sep m.vo rO m.own
  rn : ∀ b n, Sep (m.hv b n) (rN b n) m.own
/-- and what they were pulled through -/
def TH (w : World) (B : Nat) (m : MD) (ls : List Lop) : Prop := ∀ i, i < ls.length → w.ownsRow B 3 1 (m.tv i) (ls.getD i noLop).thr.length (ints (ls.getD i noLop).thr) ∧ Sep (m.tv i) (rT i) m.own

section
variable {w0 w w1 w2 : World} {B p N : Nat} {m : MD} {k : KS} {ls : List Lop}
theorem MC.le (h : MC w0 w B p N m k) : B ≤ w.heap.size := Nat.le_trans h.hB h.below.size
theorem MC.keep (h : MC w0 w B p N m k) (hb : Below w.heap.size w w1) : MC w0 w1 B p N m k := by
  have K : ∀ r, Kept m.own r w w1 := fun r => .of_below _ _ hb
  have K0 := K (6, 0, 0)
  exact ⟨h.below.trans (hb.mono h.le), h.hB, K0.arr h.arr (by rw [h.rp]; decide), h.pB, fun b hb' => ⟨K0.arr (h.bed b hb').1 (by rw [h.rb b hb']; simp), (h.bed b hb').2⟩,
    K0.row h.ol h.rl (by decide), K0.row h.oo h.ro (by decide), fun b n => K0.row (h.on b n) (h.rn b n) (by simp), h.rp, h.rb, h.rl, h.ro, h.rn⟩
theorem TH.keep (h : TH w B m ls) (hb : Below w.heap.size w w1) : TH w1 B m ls := fun i hi => ⟨(Kept.of_below m.own (6, 0, 0) hb).row (h i hi).1 (h i hi).2 (by simp), (h i hi).2⟩
theorem TH.turn {own' : Nat → Role} {r : Role} (h : TH w B m ls) (hk : Kept m.own r w w1) (ho : ∀ g, g < w.heap.size → m.own g ≠ r → own' g = m.own g) (hr : ∀ i, rT i ≠ r) {m' : MD} (e1 : ∀ i, i < ls.length → m'.tv i = m.tv i) (e2 : m'.own = own') : TH w1 B m' ls := fun i hi => by
  rw [e1 i hi, e2]
  exact ⟨hk.row (h i hi).1 (h i hi).2 (hr i), (h i hi).2.turn (h i hi).1 ho (hr i)⟩
/-- a cell of the machine -/
theorem MC.cell (h : MC w0 w B p N m k) {j : Nat} {u : Value} (hu : (mcells m N k)[j]? = some u) : w.cell? ⟨p, j, none⟩ = some u := h.arr.cell hu
theorem MC.free (h : MC w0 w B p N m k) (j : Nat) : w.frozen? ⟨p, j, none⟩ = false := h.arr.free j
theorem MC.bcell (h : MC w0 w B p N m k) {b : Int} {j : Nat} (ht : There N b (j : Int)) : w.cell? ⟨m.gb b, j, none⟩ = some (m.hv b (j : Int)) ∧ w.frozen? ⟨m.gb b, j, none⟩ = false := by
  have ha := (h.bed b ht.1).1
  have hj : j < N := by have := ht.2.2; omega
  exact ⟨ha.cell (by unfold brow; simp [hj]), ha.free j⟩
theorem MC.rack (h : MC w0 w B p N m k) (t : Int) : MC w0 (w.setCell ⟨p, 4, none⟩ (.int .i64 t)) B p N m { k with rack := t } := by
  have K : Kept m.own rM w (w.setCell ⟨p, 4, none⟩ (.int .i64 t)) := .set 4 _ h.rp
  exact ⟨h.below.setCell h.pB _, h.hB, h.arr.set 4 _, h.pB, fun b hb' => ⟨K.arr (h.bed b hb').1 (by rw [h.rb b hb']; simp), (h.bed b hb').2⟩,
    K.row h.ol h.rl (by decide), K.row h.oo h.ro (by decide), fun b n => K.row (h.on b n) (h.rn b n) (by simp), h.rp, h.rb, h.rl, h.ro, h.rn⟩
theorem MC.done (h : MC w0 w B p N m k) (d : Nat) : MC w0 (w.setCell ⟨p, 5, none⟩ (.int .i64 (d : Int))) B p N m { k with done := d } := by
  have K : Kept m.own rM w (w.setCell ⟨p, 5, none⟩ (.int .i64 (d : Int))) := .set 5 _ h.rp
  exact ⟨h.below.setCell h.pB _, h.hB, h.arr.set 5 _, h.pB, fun b hb' => ⟨K.arr (h.bed b hb').1 (by rw [h.rb b hb']; simp), (h.bed b hb').2⟩,
    K.row h.ol h.rl (by decide), K.row h.oo h.ro (by decide), fun b n => K.row (h.on b n) (h.rn b n) (by simp), h.rp, h.rb, h.rl, h.ro, h.rn⟩
theorem TH.mach (h : TH w B m ls) (hp : m.own p = rM) (j : Nat) (u : Value) : TH (w.setCell ⟨p, j, none⟩ u) B m ls := h.turn (r := rM) (.set j u hp) (fun _ _ _ => rfl) (fun i => by simp) (fun _ _ => rfl) rfl
/-- a loop more -/
theorem MC.loop (h : MC w0 w B p N m k) {v' u : Value} {z : Nat} {c : Int} {t : List Int} (hg : w.grownBy w1 m.vl.ownBlock) (hz : w.heap.size ≤ z) (hb : Below B w0 w1)
    (hv : w1.ownsRow B 41 2 v' (k.loops.length + 1) (lrow k.loops m.tv ++ [.int .i64 c, u])) (he : v'.ownBlock = m.vl.ownBlock ∨ v'.ownBlock = some z) :
    MC w0 (w1.setCell ⟨p, 0, none⟩ v') B p N { m with own := ow m.own z rL, vl := v', tv := fun i => if i = k.loops.length then u else m.tv i } { k with loops := k.loops ++ [⟨c, t⟩] } := by
  have hp : p < w.heap.size := h.arr.lt
  have K : Kept m.own rL w w1 := .of_grown hg fun g e => h.rl g e
  have O := ow_old (own := m.own) (r' := rL) hz
  have ep : ow m.own z rL p = rM := by rw [ow_ne _ _ (by omega)]; exact h.rp
  have eb : ∀ b, b = 0 ∨ b = 1 → ow m.own z rL (m.gb b) = rB b := fun b hb' => by rw [ow_ne _ _ (by have := (h.bed b hb').1.lt; omega)]; exact h.rb b hb'
  have S : Sep v' rL (ow m.own z rL) := h.rl.app h.ol hz he
  have K2 : Kept (ow m.own z rL) rM w1 (w1.setCell ⟨p, 0, none⟩ v') := .set 0 _ ep
  refine ⟨hb.setCell h.pB _, h.hB, (K.arr h.arr (by rw [h.rp]; decide)).set 0 _, h.pB, fun b hb' => ⟨K2.arr (K.arr (h.bed b hb').1 (by rw [h.rb b hb']; simp)) (by rw [eb b hb']; simp), (h.bed b hb').2⟩, ?_, ?_, fun b n => ?_, ep, eb, S, h.ro.turn h.oo O (by decide), fun b n => (h.rn b n).turn (h.on b n) O (by simp)⟩
  · dsimp only
    rw [List.length_append, List.length_singleton, lrow_snoc k.loops m.tv ⟨c, t⟩ u]
    exact K2.row hv S (by decide)
  · exact K2.row (K.row h.oo h.ro (by decide)) (h.ro.turn h.oo O (by decide)) (by decide)
  · exact K2.row (K.row (h.on b n) (h.rn b n) (by simp)) ((h.rn b n).turn (h.on b n) O (by simp)) (by simp)
theorem TH.loop (h : TH w B m k.loops) (hm : MC w0 w B p N m k) {v' u : Value} {z : Nat} (hg : w.grownBy w1 m.vl.ownBlock) (hz : w.heap.size ≤ z) :
    TH (w1.setCell ⟨p, 0, none⟩ v') B { m with own := ow m.own z rL, vl := v', tv := fun i => if i = k.loops.length then u else m.tv i } k.loops := by
  have hp : p < w.heap.size := hm.arr.lt
  have h1 : TH w1 B { m with own := ow m.own z rL, vl := v', tv := fun i => if i = k.loops.length then u else m.tv i } k.loops :=
    h.turn (r := rL) (.of_grown hg fun g e => hm.rl g e) (ow_old hz) (fun i => by simp) (fun i hi => if_neg (by omega)) rfl
  exact h1.mach (p := p) (by show ow m.own z rL p = rM; rw [ow_ne _ _ (by omega)]; exact hm.rp) 0 v'
theorem Fr.loop (hm : MC w0 w B p N m k) {v' : Value} {z : Nat} (hg : w.grownBy w1 m.vl.ownBlock) (hz : w.heap.size ≤ z) {vl' : Value} {tv' : Nat → Value} :
    Fr m w { m with own := ow m.own z rL, vl := vl', tv := tv' } (w1.setCell ⟨p, 0, none⟩ v') :=
  .step (r := rL) (.of_grown hg fun g e => hm.rl g e) (by decide) (by rw [hm.rp]; decide) fun b hb hx => by show ow m.own z rL b = rX; rw [ow_ne _ _ (by omega)]; exact hx
/-- a needle holds something else -/
theorem MC.needle (h : MC w0 w B p N m k) {b : Int} {j : Nat} (ht : There N b (j : Int)) {v' : Value} {xs : List Int} {own' : Nat → Role} (hb : Below B w0 w1) (hk : Kept m.own (rN b (j : Int)) w w1)
    (ho : ∀ g, g < w.heap.size → m.own g ≠ rN b (j : Int) → own' g = m.own g) (hv : w1.ownsRow B 3 1 v' xs.length (ints xs)) (hs : Sep v' (rN b (j : Int)) own') :
    MC w0 (w1.setCell ⟨m.gb b, j, none⟩ v') B p N { m with own := own', hv := fun b' n' => if b' = b ∧ n' = (j : Int) then v' else m.hv b' n' } { k with on := put k.on b (j : Int) xs } := by
  have hp : p < w.heap.size := h.arr.lt
  have hj : j < N := by have := ht.2.2; omega
  have ep : own' p = rM := by rw [ho p hp (by rw [h.rp]; simp)]; exact h.rp
  have eb : ∀ b, b = 0 ∨ b = 1 → own' (m.gb b) = rB b := fun b hb' => by rw [ho _ (h.bed b hb').1.lt (by rw [h.rb b hb']; simp)]; exact h.rb b hb'
  have K2 : Kept own' (rB b) w1 (w1.setCell ⟨m.gb b, j, none⟩ v') := .set j _ (eb b ht.1)
  have sl := h.rl.turn h.ol ho (by simp)
  have so := h.ro.turn h.oo ho (by simp)
  have sn : ∀ b' n', ¬ (b' = b ∧ n' = (j : Int)) → Sep (m.hv b' n') (rN b' n') own' := fun b' n' hne => (h.rn b' n').turn (h.on b' n') ho (by simpa using hne)
  refine ⟨hb.setCell (h.bed b ht.1).2 _, h.hB, K2.arr (hk.arr h.arr (by rw [h.rp]; simp)) (by rw [ep]; simp), h.pB, fun b' hb' => ⟨?_, (h.bed b' hb').2⟩, K2.row (hk.row h.ol h.rl (by simp)) sl (by simp), K2.row (hk.row h.oo h.ro (by simp)) so (by simp), fun b' n' => ?_, ep, eb, sl, so, fun b' n' => ?_⟩
  · have ha := hk.arr (h.bed b' hb').1 (by rw [h.rb b' hb']; simp)
    by_cases hbb : b' = b
    · subst hbb
      have := ha.set j v'
      have e : (brow m N b').set j v' = brow { m with own := own', hv := fun b'' n' => if b'' = b' ∧ n' = (j : Int) then v' else m.hv b'' n' } N b' := by
        unfold brow
        apply List.ext_getElem
        · simp
        · intro i h1 h2
          simp only [List.length_set, List.length_map, List.length_range] at h1
          rw [List.getElem_set]
          by_cases hi : j = i
          · subst hi; simp
          · rw [if_neg hi]; simp; intro e; omega
      rw [← e]
      exact this
    · have e : brow { m with own := own', hv := fun b'' n' => if b'' = b ∧ n' = (j : Int) then v' else m.hv b'' n' } N b' = brow m N b' := by
        unfold brow
        refine List.map_congr_left fun i _ => ?_
        exact if_neg fun c => hbb c.1
      rw [e]
      exact K2.arr ha (by rw [eb b' hb']; simpa using hbb)
  · by_cases hne : b' = b ∧ n' = (j : Int)
    · obtain ⟨rfl, rfl⟩ := hne
      dsimp only
      rw [if_pos ⟨rfl, rfl⟩, put_same]
      exact K2.row hv hs (by simp)
    · dsimp only
      rw [if_neg hne, put_ne _ _ hne]
      exact K2.row (hk.row (h.on b' n') (h.rn b' n') (by simpa using hne)) (sn b' n' hne) (by simp)
  · by_cases hne : b' = b ∧ n' = (j : Int)
    · obtain ⟨rfl, rfl⟩ := hne
      dsimp only
      rw [if_pos ⟨rfl, rfl⟩]
      exact hs
    · dsimp only
      rw [if_neg hne]
      exact sn b' n' hne
theorem TH.needle (h : TH w B m ls) (hm : MC w0 w B p N m k) {b : Int} {j : Nat} (hbb : b = 0 ∨ b = 1) {v' : Value} {own' : Nat → Role} {hv' : Int → Int → Value} (hk : Kept m.own (rN b (j : Int)) w w1)
    (ho : ∀ g, g < w.heap.size → m.own g ≠ rN b (j : Int) → own' g = m.own g) : TH (w1.setCell ⟨m.gb b, j, none⟩ v') B { m with own := own', hv := hv' } ls := by
  have h1 : TH w1 B { m with own := own', hv := hv' } ls := h.turn (r := rN b (j : Int)) hk ho (fun i => by simp) (fun _ _ => rfl) rfl
  have eb : own' (m.gb b) = rB b := by rw [ho _ (hm.bed b hbb).1.lt (by rw [hm.rb b hbb]; simp)]; exact hm.rb b hbb
  exact h1.turn (r := rB b) (.set j v' eb) (fun _ _ _ => rfl) (fun i => by simp) (fun _ _ => rfl) rfl
/-- loops are dropped -/
theorem MC.loosen (h : MC w0 w B p N m k) {v' : Value} {z : Nat} {xs : List Int} (hg : w.grownBy w1 m.vo.ownBlock) (hz : w.heap.size ≤ z) (hb : Below B w0 w1)
    (hv : w1.ownsRow B 3 1 v' xs.length (ints xs)) (he : v'.ownBlock = m.vo.ownBlock ∨ v'.ownBlock = some z) :
    MC w0 (w1.setCell ⟨p, 3, none⟩ v') B p N { m with own := ow m.own z rO, vo := v' } { k with loose := xs } := by
  have hp : p < w.heap.size := h.arr.lt
  have K : Kept m.own rO w w1 := .of_grown hg fun g e => h.ro g e
  have O := ow_old (own := m.own) (r' := rO) hz
  have ep : ow m.own z rO p = rM := by rw [ow_ne _ _ (by omega)]; exact h.rp
  have eb : ∀ b, b = 0 ∨ b = 1 → ow m.own z rO (m.gb b) = rB b := fun b hb' => by rw [ow_ne _ _ (by have := (h.bed b hb').1.lt; omega)]; exact h.rb b hb'
  have S : Sep v' rO (ow m.own z rO) := h.ro.app h.oo hz he
  have K2 : Kept (ow m.own z rO) rM w1 (w1.setCell ⟨p, 3, none⟩ v') := .set 3 _ ep
  refine ⟨hb.setCell h.pB _, h.hB, (K.arr h.arr (by rw [h.rp]; decide)).set 3 _, h.pB, fun b hb' => ⟨K2.arr (K.arr (h.bed b hb').1 (by rw [h.rb b hb']; simp)) (by rw [eb b hb']; simp), (h.bed b hb').2⟩,
    K2.row (K.row h.ol h.rl (by decide)) (h.rl.turn h.ol O (by decide)) (by decide), K2.row hv S (by decide), fun b n => K2.row (K.row (h.on b n) (h.rn b n) (by simp)) ((h.rn b n).turn (h.on b n) O (by simp)) (by simp), ep, eb, h.rl.turn h.ol O (by decide), S, fun b n => (h.rn b n).turn (h.on b n) O (by simp)⟩
theorem TH.loosen (h : TH w B m ls) (hm : MC w0 w B p N m k) {v' : Value} {z : Nat} (hg : w.grownBy w1 m.vo.ownBlock) (hz : w.heap.size ≤ z) :
    TH (w1.setCell ⟨p, 3, none⟩ v') B { m with own := ow m.own z rO, vo := v' } ls := by
  have hp : p < w.heap.size := hm.arr.lt
  have h1 : TH w1 B { m with own := ow m.own z rO, vo := v' } ls := h.turn (r := rO) (.of_grown hg fun g e => hm.ro g e) (ow_old hz) (fun i => by simp) (fun _ _ => rfl) rfl
  exact h1.mach (p := p) (by show ow m.own z rO p = rM; rw [ow_ne _ _ (by omega)]; exact hm.rp) 3 v'
/-- the last loop was pulled through what a needle held -/
theorem TH.more (h : TH w B m ls) {l : Lop} {u : Value} (hu : w.ownsRow B 3 1 u l.thr.length (ints l.thr)) (hs : Sep u (rT ls.length) m.own) (e : m.tv ls.length = u) : TH w B m (ls ++ [l]) := fun i hi => by
  rw [List.length_append, List.length_singleton] at hi
  by_cases c : i < ls.length
  · have : (ls ++ [l]).getD i noLop = ls.getD i noLop := by simp [c, List.getElem?_append_left]
    rw [this]
    exact h i c
  · obtain rfl : i = ls.length := by omega
    have : (ls ++ [l]).getD ls.length noLop = l := by simp
    rw [this, e]
    exact ⟨hu, hs⟩
end
end Go.Proofs.Ytaacfjeddoekfaa
