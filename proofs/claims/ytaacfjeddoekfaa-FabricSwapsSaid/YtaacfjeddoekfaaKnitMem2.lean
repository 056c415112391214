/- Chapter 11: what a stitch does in memory. -/
import Derived.Test.YtaacfjeddoekfaaKnitWalk4
namespace Go.Proofs.Ytaacfjeddoekfaa
open Go.RowKit
set_option linter.unusedVariables false

section
variable {w0 w w1 : World} {B p N : Nat} {m : MD} {k : KS} {ls : List Lop}
/-- a needle's slice grows -/
theorem needle_app (h : MC w0 w B p N m k) (hT : TH w B m ls) {b : Int} {j : Nat} (ht : There N b (j : Int)) {v' : Value} {z : Nat} {xs : List Int} (hg : w.grownBy w1 (m.hv b (j : Int)).ownBlock) (hz : w.heap.size ≤ z) (hb : Below B w0 w1)
    (hv : w1.ownsRow B 3 1 v' xs.length (ints xs)) (he : v'.ownBlock = (m.hv b (j : Int)).ownBlock ∨ v'.ownBlock = some z) :
    ∃ m', MC w0 (w1.setCell ⟨m.gb b, j, none⟩ v') B p N m' { k with on := put k.on b (j : Int) xs } ∧ TH (w1.setCell ⟨m.gb b, j, none⟩ v') B m' ls ∧ m'.tv = m.tv ∧ m'.gb = m.gb ∧ (∀ b' n', ¬ (b' = b ∧ n' = (j : Int)) → m'.hv b' n' = m.hv b' n') ∧ Fr m w m' (w1.setCell ⟨m.gb b, j, none⟩ v') := by
  have K : Kept m.own (rN b (j : Int)) w w1 := .of_grown hg fun g e => h.rn b _ g e
  have O := ow_old (own := m.own) (r' := rN b (j : Int)) hz
  refine ⟨_, h.needle ht hb K O hv ((h.rn b _).app (h.on b _) hz he), hT.needle h ht.1 K O, rfl, rfl, fun b' n' hne => if_neg hne, .step K (by simp) (by rw [h.rb b ht.1]; simp) fun x hx he => by show ow m.own z _ x = rX; rw [ow_ne _ _ (by omega)]; exact he⟩
/-- a needle is emptied -/
theorem needle_nil (h : MC w0 w B p N m k) (hT : TH w B m ls) {b : Int} {j : Nat} (ht : There N b (j : Int)) :
    ∃ m', MC w0 (w.setCell ⟨m.gb b, j, none⟩ (.slice none 0 0)) B p N m' { k with on := put k.on b (j : Int) [] } ∧ TH (w.setCell ⟨m.gb b, j, none⟩ (.slice none 0 0)) B m' ls ∧ Fr m w m' (w.setCell ⟨m.gb b, j, none⟩ (.slice none 0 0)) :=
  ⟨_, h.needle (w1 := w) (own' := m.own) ht h.below (.refl _ _ _) (fun _ _ _ => rfl) (World.ownsRow_nil _ _ _ _) (Sep.nil _ _), hT.needle (w1 := w) (own' := m.own) h ht.1 (.refl _ _ _) (fun _ _ _ => rfl), .step (.refl m.own rM w) (by decide) (by rw [h.rb b ht.1]; simp) fun x hx he => he⟩
/-- a loop is pulled through what a needle holds -/
theorem knit_step {b : Int} {j : Nat} {c : Int} (h : MC w0 w B p N m { k with loops := k.loops ++ [⟨c, k.on b (j : Int)⟩] }) (hT : TH w B m k.loops) (ht : There N b (j : Int)) (hu : m.tv k.loops.length = m.hv b (j : Int)) :
    MF w0 ((w.alloc (.cells #[.int .i64 (k.loops.length : Int)] 3)).setCell ⟨m.gb b, j, none⟩ (.slice (some ⟨w.heap.size, 0, none⟩) 1 1)) B p N { k with loops := k.loops ++ [⟨c, k.on b (j : Int)⟩], on := put k.on b (j : Int) [(k.loops.length : Int)] } m w := by
  have hsz := h.le
  obtain ⟨own', hown⟩ : ∃ own' : Nat → Role, ∀ x, own' x = if x = w.heap.size then rN b (j : Int) else if (m.hv b (j : Int)).ownBlock = some x then rT k.loops.length else m.own x := ⟨_, fun _ => rfl⟩
  have hon := h.on b (j : Int)
  have hrn := h.rn b (j : Int)
  have O : ∀ g, g < w.heap.size → m.own g ≠ rN b (j : Int) → own' g = m.own g := fun g hg hn => by
    rw [hown, if_neg (by omega), if_neg (fun e => hn (hrn g e))]
  have K : Kept m.own (rN b (j : Int)) w (w.alloc (.cells #[.int .i64 (k.loops.length : Int)] 3)) := .of_below _ _ ((Below.refl _ _).alloc (Nat.le_refl _) _)
  have hl : (w.alloc (.cells #[.int .i64 (k.loops.length : Int)] 3)).ownsRow B 3 1 (.slice (some ⟨w.heap.size, 0, none⟩) 1 1) 1 (ints [(k.loops.length : Int)]) := World.ownsRow_lit (e := 3) (size := 1) w #[.int .i64 (k.loops.length : Int)] 1 hsz (by simp [maxLen]) rfl
  have hs : Sep (.slice (some ⟨w.heap.size, 0, none⟩) 1 1) (rN b (j : Int)) own' := fun g e => by cases e; rw [hown, if_pos rfl]
  have h1 := h.needle (xs := [(k.loops.length : Int)]) ht (h.below.alloc hsz _) K O hl hs
  have t1 := hT.needle (v' := .slice (some ⟨w.heap.size, 0, none⟩) 1 1) (hv' := fun b' n' => if b' = b ∧ n' = (j : Int) then (.slice (some ⟨w.heap.size, 0, none⟩) 1 1) else m.hv b' n') h ht.1 K O
  refine ⟨_, h1, t1.more (u := m.hv b (j : Int)) ?_ ?_ hu, .step K (by simp) (by rw [h.rb b ht.1]; simp) fun x hx he => ?_⟩
  · have a1 := own_al hon (.cells #[.int .i64 (k.loops.length : Int)] 3)
    refine a1.kept (grownBy_set _ (m.gb b) j _) ?_
    cases hb : (m.hv b (j : Int)).ownBlock with
    | none => exact .inl rfl
    | some g =>
      refine .inr fun e => ?_
      injection e with e
      have e1 := hrn g hb
      rw [e, h.rb b ht.1] at e1
      exact absurd e1 (by simp)
  · intro g e
    show own' g = _
    rw [hown, if_neg (by have := (hon.lt g e).2; omega), if_pos e]
  · show own' x = rX
    rw [O x hx (by rw [he]; simp)]
    exact he
/-- a loop is laid on a needle -/
theorem tuck_step {b : Int} {j : Nat} {c : Int} (h : MC w0 w B p N m { k with loops := k.loops ++ [⟨c, []⟩] }) (hT : TH w B m k.loops) (ht : There N b (j : Int)) (hu : m.tv k.loops.length = .slice none 0 0) {v' : Value} {z : Nat} (hg : w.grownBy w1 (m.hv b (j : Int)).ownBlock) (hz : w.heap.size ≤ z) (hb : Below B w0 w1)
    (hv : w1.ownsRow B 3 1 v' ((k.on b (j : Int)).length + 1) (ints (k.on b (j : Int)) ++ [.int .i64 (k.loops.length : Int)])) (he : v'.ownBlock = (m.hv b (j : Int)).ownBlock ∨ v'.ownBlock = some z) :
    MF w0 (w1.setCell ⟨m.gb b, j, none⟩ v') B p N { k with loops := k.loops ++ [⟨c, []⟩], on := put k.on b (j : Int) (k.on b (j : Int) ++ [(k.loops.length : Int)]) } m w := by
  obtain ⟨m', h1, h2, e1, _, _, f1⟩ := needle_app (xs := k.on b (j : Int) ++ [(k.loops.length : Int)]) h hT ht hg hz hb (by rw [List.length_append, List.length_singleton, ints_app]; exact hv) he
  exact ⟨m', h1, h2.more (World.ownsRow_nil _ _ _ _) (Sep.nil _ _) (by rw [e1]; exact hu), f1⟩
/-- what a needle holds goes to another one -/
theorem move_step {b f : Int} {j jf : Nat} (h : MC w0 w B p N m k) (hT : TH w B m k.loops) (ht : There N b (j : Int)) (hf : There N f (jf : Int)) (hne : f ≠ b) {v' : Value} {z : Nat} (hg : w.grownBy w1 (m.hv f (jf : Int)).ownBlock) (hz : w.heap.size ≤ z) (hb : Below B w0 w1)
    (hv : w1.ownsRow B 3 1 v' ((k.on f (jf : Int)).length + (k.on b (j : Int)).length) (ints (k.on f (jf : Int)) ++ ints (k.on b (j : Int)))) (he : v'.ownBlock = (m.hv f (jf : Int)).ownBlock ∨ v'.ownBlock = some z) :
    (∃ A c, (w1.setCell ⟨m.gb f, jf, none⟩ v').cell? ⟨m.gb b, j, none⟩ = some (.slice A (k.on b (j : Int)).length c)) ∧ (w1.setCell ⟨m.gb f, jf, none⟩ v').frozen? ⟨m.gb b, j, none⟩ = false ∧
    MF w0 ((w1.setCell ⟨m.gb f, jf, none⟩ v').setCell ⟨m.gb b, j, none⟩ (.slice none 0 0)) B p N { k with on := put (put k.on f (jf : Int) (k.on f (jf : Int) ++ k.on b (j : Int))) b (j : Int) [] } m w := by
  obtain ⟨m', h1, h2, e1, e2, e3, f1⟩ := needle_app (xs := k.on f (jf : Int) ++ k.on b (j : Int)) h hT hf hg hz hb (by rw [List.length_append, ints_app]; exact hv) he
  have hc := h1.bcell ht
  rw [e3 b (j : Int) (fun c => hne c.1.symm), e2] at hc
  obtain ⟨m'', h3, h4, f2⟩ := needle_nil h1 h2 ht
  rw [e2] at h3 h4 f2
  obtain ⟨A, c, e, _, _⟩ := own_form (h.on b (j : Int))
  rw [e] at hc
  exact ⟨⟨A, c, hc.1⟩, hc.2, m'', h3, h4, f1.trans f2⟩
/-- what a needle holds is dropped -/
theorem drop_step {b : Int} {j : Nat} (h : MC w0 w B p N m k) (hT : TH w B m k.loops) (ht : There N b (j : Int)) {v' : Value} {z : Nat} (hg : w.grownBy w1 m.vo.ownBlock) (hz : w.heap.size ≤ z) (hb : Below B w0 w1)
    (hv : w1.ownsRow B 3 1 v' (k.loose.length + (k.on b (j : Int)).length) (ints k.loose ++ ints (k.on b (j : Int)))) (he : v'.ownBlock = m.vo.ownBlock ∨ v'.ownBlock = some z) :
    (∃ A c, (w1.setCell ⟨p, 3, none⟩ v').cell? ⟨m.gb b, j, none⟩ = some (.slice A (k.on b (j : Int)).length c)) ∧ (w1.setCell ⟨p, 3, none⟩ v').frozen? ⟨m.gb b, j, none⟩ = false ∧
    MF w0 ((w1.setCell ⟨p, 3, none⟩ v').setCell ⟨m.gb b, j, none⟩ (.slice none 0 0)) B p N { k with loose := k.loose ++ k.on b (j : Int), on := put k.on b (j : Int) [] } m w := by
  have h1 := h.loosen (xs := k.loose ++ k.on b (j : Int)) hg hz hb (by rw [List.length_append, ints_app]; exact hv) he
  have h2 := hT.loosen (v' := v') h hg hz
  have hc := h1.bcell ht
  obtain ⟨m'', h3, h4, f2⟩ := needle_nil h1 h2 ht
  have f1 : Fr m w { m with own := ow m.own z rO, vo := v' } (w1.setCell ⟨p, 3, none⟩ v') := .step (r := rO) (.of_grown hg fun g e => h.ro g e) (by decide) (by rw [h.rp]; decide) fun x hx he => by show ow m.own z rO x = rX; rw [ow_ne _ _ (by omega)]; exact he
  obtain ⟨A, c, e, _, _⟩ := own_form (h.on b (j : Int))
  have hc1 : (w1.setCell ⟨p, 3, none⟩ v').cell? ⟨m.gb b, j, none⟩ = some (m.hv b (j : Int)) := hc.1
  rw [e] at hc1
  exact ⟨⟨A, c, hc1⟩, hc.2, m'', h3, h4, f1.trans f2⟩
end
end Go.Proofs.Ytaacfjeddoekfaa
