/- Texts of the seat, put together: KnitWalk4, KnitMem2, Plan. -/
import Derived.Test.YtaacfjeddoekfaaTlKnitWalk3
import Derived.Test.YtaacfjeddoekfaaTl1
import Derived.OrdersHeld
import Derived.Deep.RegionHeld3
/- Chapter 11: a stitch is done. -/
namespace Go.Proofs.Ytaacfjeddoekfaa
open Go.RowKit
set_option linter.unusedVariables false

/-- a machine whole -/
def MW (w0 w : World) (B p N : Nat) (k : KS) : Prop := ∃ m, MC w0 w B p N m k ∧ TH w B m k.loops
/-- a machine whole; what is not its own is as it was with m in w -/
def MF (w0 w' : World) (B p N : Nat) (k : KS) (m : MD) (w : World) : Prop := ∃ m', MC w0 w' B p N m' k ∧ TH w' B m' k.loops ∧ Fr m w m' w'
theorem MF.before {w0 w' : World} {B p N : Nat} {k : KS} {m m1 : MD} {w w1 : World} (h : MF w0 w' B p N k m w) (f : Fr m1 w1 m w) : MF w0 w' B p N k m1 w1 := by
  obtain ⟨m', h1, h2, h3⟩ := h
  exact ⟨m', h1, h2, f.trans h3⟩
theorem MW.keep {w0 w w1 : World} {B p N : Nat} {k : KS} (h : MW w0 w B p N k) (hb : Below w.heap.size w w1) : MW w0 w1 B p N k := by
  obtain ⟨m, h1, h2⟩ := h
  exact ⟨m, h1.keep hb, h2.keep hb⟩
theorem MC.drew {w0 w : World} {B p N : Nat} {m : MD} {k : KS} (h : MC w0 w B p N m k) : MC w0 w.drew B p N m k := h.keep (below_dN (n := 1) (Below.refl _ _))

set_option maxRecDepth 100000 in
set_option maxHeartbeats 4000000 in
theorem Do_bad {w0 w : World} {B p N : Nat} {k : KS} (h : MW w0 w B p N k) (hN : N ≤ 128) (hi : Kinv N k) (x : Sti) (hw : wrongK N k x ≠ 0) :
    Calls Try.prog 26 #[ptr p 0, .agg x.cells.toArray] w fun e w' => e = .returned (.int .i64 (wrongK N k x)) ∧ MW w0 w' B p N k ∧ Below w.heap.size w w' := by
  obtain ⟨m, hm, ht⟩ := h
  have HM := Lib.hid hm
  have HT := Lib.hid ht
  have HI := Lib.hid hi
  clear hm ht hi
  have HW : Hid (∀ w', Below w.heap.size w w' → Calls Try.prog 46 #[ptr p 0, .agg x.cells.toArray] w' fun e w'' => e = .returned (.int .i64 (wrongK N k x)) ∧ Below w'.heap.size w' w'') := fun w' hb => wrong_any (HM.out.keep hb) hN HI.out x
  have hwn : (wrongK N k x != 0) = true := by simpa using hw
  generalize wrongK N k x = c at *
  clear hw
  obtain ⟨d, b, n, cc, t⟩ := x
  have HW : Hid (∀ w', Below w.heap.size w w' → Calls Try.prog 46 #[ptr p 0, .agg #[.int .i64 d, .int .i64 b, .int .i64 n, .int .i64 cc, .int .i64 t]] w' fun e w'' => e = .returned (.int .i64 c) ∧ Below w'.heap.size w' w'') := HW.out
  show Calls Try.prog 26 #[ptr p 0, .agg #[.int .i64 d, .int .i64 b, .int .i64 n, .int .i64 cc, .int .i64 t]] w _
  have hbe : Hid (Below w.heap.size w (w.alloc (.cells #[.int .i64 d, .int .i64 b, .int .i64 n, .int .i64 cc, .int .i64 t] 44))) := (Below.refl _ _).alloc (Nat.le_refl _) _
  go_enter Try.func26, Try.ntmps26
  go_wp2_with fail
  refine (HW.out _ hbe.out).mono ?_
  rintro e w1 ⟨rfl, hb1⟩
  have HB1 := Lib.hid (hbe.out.trans (hb1.mono (by simp)))
  clear hb1
  go_wp2_with fail
  go_ret
  exact ⟨rfl, ⟨m, HM.out.keep HB1.out, HT.out.keep HB1.out⟩, HB1.out⟩
end Go.Proofs.Ytaacfjeddoekfaa
/- Chapter 11: what a stitch does in memory. -/
namespace Go.Proofs.Ytaacfjeddoekfaa
open Go.RowKit
set_option linter.unusedVariables false

section
variable {w0 w w1 : World} {B p N : Nat} {m : MD} {k : KS} {ls : List Lop}
/-- a needle's slice grows -/
theorem needle_app (h : MC w0 w B p N m k) (hT : TH w B m ls) {b : Int} {j : Nat} (ht : There N b (j : Int)) {v' : Value} {z : Nat} {xs : List Int} (hg : w.grownBy w1 (m.hv b (j : Int)).ownBlock) (hz : w.heap.size ≤ z) (hb : Below B w0 w1)
    (hv : w1.ownsRow B 3 1 v' xs.length (ints xs)) (he : v'.ownBlock = (m.hv b (j : Int)).ownBlock ∨ v'.ownBlock = some z) :
    ∃ m', MC w0 (w1.setCell ⟨m.gb b, j, none⟩ v') B p N m' { k with on := put k.on b (j : Int) xs } ∧ TH (w1.setCell ⟨m.gb b, j, none⟩ v') B m' ls ∧ m'.tv = m.tv ∧ m'.gb = m.gb ∧ (∀ b' n', ¬ (b' = b ∧ n' = (j : Int)) → m'.hv b' n' = m.hv b' n') ∧ Fr m w m' (w1.setCell ⟨m.gb b, j, none⟩ v') := by
  have K : Kept m.own (rN b (j : Int)) w w1 := .of_grown hg fun g e => h.rn b _ g e
  have O := ow_old (own := m.own) (r' := rN b (j : Int)) hz
  refine ⟨_, h.needle ht hb K O hv ((h.rn b _).app (h.on b _) hz he), hT.needle h ht.1 K O, rfl, rfl, fun b' n' hne => if_neg hne, .step K (by simp) (by rw [h.rb b ht.1]; simp) fun x hx he => by show ow m.own z _ x = rX; rw [ow_ne _ _ (by omega)]; exact he⟩
/-- a needle is emptied -/
theorem needle_nil (h : MC w0 w B p N m k) (hT : TH w B m ls) {b : Int} {j : Nat} (ht : There N b (j : Int)) :
    ∃ m', MC w0 (w.setCell ⟨m.gb b, j, none⟩ (.slice none 0 0)) B p N m' { k with on := put k.on b (j : Int) [] } ∧ TH (w.setCell ⟨m.gb b, j, none⟩ (.slice none 0 0)) B m' ls ∧ Fr m w m' (w.setCell ⟨m.gb b, j, none⟩ (.slice none 0 0)) :=
  ⟨_, h.needle (w1 := w) (own' := m.own) ht h.below (.refl _ _ _) (fun _ _ _ => rfl) (World.ownsRow_nil _ _ _ _) (Sep.nil _ _), hT.needle (w1 := w) (own' := m.own) h ht.1 (.refl _ _ _) (fun _ _ _ => rfl), .step (.refl m.own rM w) (by decide) (by rw [h.rb b ht.1]; simp) fun x hx he => he⟩
/-- a loop is pulled through what a needle holds -/
theorem knit_step {b : Int} {j : Nat} {c : Int} (h : MC w0 w B p N m { k with loops := k.loops ++ [⟨c, k.on b (j : Int)⟩] }) (hT : TH w B m k.loops) (ht : There N b (j : Int)) (hu : m.tv k.loops.length = m.hv b (j : Int)) :
    MF w0 ((w.alloc (.cells #[.int .i64 (k.loops.length : Int)] 3)).setCell ⟨m.gb b, j, none⟩ (.slice (some ⟨w.heap.size, 0, none⟩) 1 1)) B p N { k with loops := k.loops ++ [⟨c, k.on b (j : Int)⟩], on := put k.on b (j : Int) [(k.loops.length : Int)] } m w := by
  have hsz := h.le
  obtain ⟨own', hown⟩ : ∃ own' : Nat → Role, ∀ x, own' x = if x = w.heap.size then rN b (j : Int) else if (m.hv b (j : Int)).ownBlock = some x then rT k.loops.length else m.own x := ⟨_, fun _ => rfl⟩
  have hon := h.on b (j : Int)
  have hrn := h.rn b (j : Int)
  have O : ∀ g, g < w.heap.size → m.own g ≠ rN b (j : Int) → own' g = m.own g := fun g hg hn => by
    rw [hown, if_neg (by omega), if_neg (fun e => hn (hrn g e))]
  have K : Kept m.own (rN b (j : Int)) w (w.alloc (.cells #[.int .i64 (k.loops.length : Int)] 3)) := .of_below _ _ ((Below.refl _ _).alloc (Nat.le_refl _) _)
  have hl : (w.alloc (.cells #[.int .i64 (k.loops.length : Int)] 3)).ownsRow B 3 1 (.slice (some ⟨w.heap.size, 0, none⟩) 1 1) 1 (ints [(k.loops.length : Int)]) := World.ownsRow_lit (e := 3) (size := 1) w #[.int .i64 (k.loops.length : Int)] 1 hsz (by simp [maxLen]) rfl
  have hs : Sep (.slice (some ⟨w.heap.size, 0, none⟩) 1 1) (rN b (j : Int)) own' := fun g e => by cases e; rw [hown, if_pos rfl]
  have h1 := h.needle (xs := [(k.loops.length : Int)]) ht (h.below.alloc hsz _) K O hl hs
  have t1 := hT.needle (v' := .slice (some ⟨w.heap.size, 0, none⟩) 1 1) (hv' := fun b' n' => if b' = b ∧ n' = (j : Int) then (.slice (some ⟨w.heap.size, 0, none⟩) 1 1) else m.hv b' n') h ht.1 K O
  refine ⟨_, h1, t1.more (u := m.hv b (j : Int)) ?_ ?_ hu, .step K (by simp) (by rw [h.rb b ht.1]; simp) fun x hx he => ?_⟩
  · have a1 := own_al hon (.cells #[.int .i64 (k.loops.length : Int)] 3)
    refine a1.kept (grownBy_set _ (m.gb b) j _) ?_
    cases hb : (m.hv b (j : Int)).ownBlock with
    | none => exact .inl rfl
    | some g =>
      refine .inr fun e => ?_
      injection e with e
      have e1 := hrn g hb
      rw [e, h.rb b ht.1] at e1
      exact absurd e1 (by simp)
  · intro g e
    show own' g = _
    rw [hown, if_neg (by have := (hon.lt g e).2; omega), if_pos e]
  · show own' x = rX
    rw [O x hx (by rw [he]; simp)]
    exact he
/-- a loop is laid on a needle -/
theorem tuck_step {b : Int} {j : Nat} {c : Int} (h : MC w0 w B p N m { k with loops := k.loops ++ [⟨c, []⟩] }) (hT : TH w B m k.loops) (ht : There N b (j : Int)) (hu : m.tv k.loops.length = .slice none 0 0) {v' : Value} {z : Nat} (hg : w.grownBy w1 (m.hv b (j : Int)).ownBlock) (hz : w.heap.size ≤ z) (hb : Below B w0 w1)
    (hv : w1.ownsRow B 3 1 v' ((k.on b (j : Int)).length + 1) (ints (k.on b (j : Int)) ++ [.int .i64 (k.loops.length : Int)])) (he : v'.ownBlock = (m.hv b (j : Int)).ownBlock ∨ v'.ownBlock = some z) :
    MF w0 (w1.setCell ⟨m.gb b, j, none⟩ v') B p N { k with loops := k.loops ++ [⟨c, []⟩], on := put k.on b (j : Int) (k.on b (j : Int) ++ [(k.loops.length : Int)]) } m w := by
  obtain ⟨m', h1, h2, e1, _, _, f1⟩ := needle_app (xs := k.on b (j : Int) ++ [(k.loops.length : Int)]) h hT ht hg hz hb (by rw [List.length_append, List.length_singleton, ints_app]; exact hv) he
  exact ⟨m', h1, h2.more (World.ownsRow_nil _ _ _ _) (Sep.nil _ _) (by rw [e1]; exact hu), f1⟩
/-- what a needle holds goes to another one -/
theorem move_step {b f : Int} {j jf : Nat} (h : MC w0 w B p N m k) (hT : TH w B m k.loops) (ht : There N b (j : Int)) (hf : There N f (jf : Int)) (hne : f ≠ b) {v' : Value} {z : Nat} (hg : w.grownBy w1 (m.hv f (jf : Int)).ownBlock) (hz : w.heap.size ≤ z) (hb : Below B w0 w1)
    (hv : w1.ownsRow B 3 1 v' ((k.on f (jf : Int)).length + (k.on b (j : Int)).length) (ints (k.on f (jf : Int)) ++ ints (k.on b (j : Int)))) (he : v'.ownBlock = (m.hv f (jf : Int)).ownBlock ∨ v'.ownBlock = some z) :
    (∃ A c, (w1.setCell ⟨m.gb f, jf, none⟩ v').cell? ⟨m.gb b, j, none⟩ = some (.slice A (k.on b (j : Int)).length c)) ∧ (w1.setCell ⟨m.gb f, jf, none⟩ v').frozen? ⟨m.gb b, j, none⟩ = false ∧
    MF w0 ((w1.setCell ⟨m.gb f, jf, none⟩ v').setCell ⟨m.gb b, j, none⟩ (.slice none 0 0)) B p N { k with on := put (put k.on f (jf : Int) (k.on f (jf : Int) ++ k.on b (j : Int))) b (j : Int) [] } m w := by
  obtain ⟨m', h1, h2, e1, e2, e3, f1⟩ := needle_app (xs := k.on f (jf : Int) ++ k.on b (j : Int)) h hT hf hg hz hb (by rw [List.length_append, ints_app]; exact hv) he
  have hc := h1.bcell ht
  rw [e3 b (j : Int) (fun c => hne c.1.symm), e2] at hc
  obtain ⟨m'', h3, h4, f2⟩ := needle_nil h1 h2 ht
  rw [e2] at h3 h4 f2
  obtain ⟨A, c, e, _, _⟩ := own_form (h.on b (j : Int))
  rw [e] at hc
  exact ⟨⟨A, c, hc.1⟩, hc.2, m'', h3, h4, f1.trans f2⟩
/-- what a needle holds is dropped -/
theorem drop_step {b : Int} {j : Nat} (h : MC w0 w B p N m k) (hT : TH w B m k.loops) (ht : There N b (j : Int)) {v' : Value} {z : Nat} (hg : w.grownBy w1 m.vo.ownBlock) (hz : w.heap.size ≤ z) (hb : Below B w0 w1)
    (hv : w1.ownsRow B 3 1 v' (k.loose.length + (k.on b (j : Int)).length) (ints k.loose ++ ints (k.on b (j : Int)))) (he : v'.ownBlock = m.vo.ownBlock ∨ v'.ownBlock = some z) :
    (∃ A c, (w1.setCell ⟨p, 3, none⟩ v').cell? ⟨m.gb b, j, none⟩ = some (.slice A (k.on b (j : Int)).length c)) ∧ (w1.setCell ⟨p, 3, none⟩ v').frozen? ⟨m.gb b, j, none⟩ = false ∧
    MF w0 ((w1.setCell ⟨p, 3, none⟩ v').setCell ⟨m.gb b, j, none⟩ (.slice none 0 0)) B p N { k with loose := k.loose ++ k.on b (j : Int), on := put k.on b (j : Int) [] } m w := by
  have h1 := h.loosen (xs := k.loose ++ k.on b (j : Int)) hg hz hb (by rw [List.length_append, ints_app]; exact hv) he
  have h2 := hT.loosen (v' := v') h hg hz
  have hc := h1.bcell ht
  obtain ⟨m'', h3, h4, f2⟩ := needle_nil h1 h2 ht
  have f1 : Fr m w { m with own := ow m.own z rO, vo := v' } (w1.setCell ⟨p, 3, none⟩ v') := .step (r := rO) (.of_grown hg fun g e => h.ro g e) (by decide) (by rw [h.rp]; decide) fun x hx he => by show ow m.own z rO x = rX; rw [ow_ne _ _ (by omega)]; exact he
  obtain ⟨A, c, e, _, _⟩ := own_form (h.on b (j : Int))
  have hc1 : (w1.setCell ⟨p, 3, none⟩ v').cell? ⟨m.gb b, j, none⟩ = some (m.hv b (j : Int)) := hc.1
  rw [e] at hc1
  exact ⟨⟨A, c, hc1⟩, hc.2, m'', h3, h4, f1.trans f2⟩
end
end Go.Proofs.Ytaacfjeddoekfaa
/- A region that draws its order, walked in an order of our own: what only reads is taken first; of what writes only one may come up at a time; behind the last store nothing is asked of the world any more. -/
namespace Go.Proofs.Ytaacfjeddoekfaa
open Go.RowKit
set_option linter.unusedVariables false

section
variable {P : Program} {ops : Array Oper} {md : Region.Mode} {S : World → Prop} {Q : Exit → Act → World → Prop} {z : Nat}

def wpAnyG (P : Program) (md : Region.Mode) (ops : Array Oper) (Q : Exit → Act → World → Prop) (S : World → Prop) (z : Nat) : Nat → Array Bool → Act → World → Prop
  | 0, listed, a, w => Region.ready md ops listed = [] ∧ Q .normal a w
  | fuel + 1, listed, a, w =>
    (Region.ready md ops listed = [] → Q .normal a w) ∧
    ∀ i ∈ Region.ready md ops listed, wpOp P ops Q i (fun a' w' => (i = z ∨ S w') ∧ wpAnyG P md ops Q S z fuel (listed.setIfInBounds i true) a' w') a w
theorem wpAny_of_G : ∀ (fuel : Nat) (listed : Array Bool) (a : Act) (w : World), wpAnyG P md ops Q S z fuel listed a w → wpAny P md ops Q fuel listed a w
  | 0, _, _, _, h => h
  | fuel + 1, _, _, _, h => ⟨h.1, fun i hi => wpOp_mono (fun a' w' h' => wpAny_of_G fuel _ a' w' h'.2) (h.2 i hi)⟩
/-- number z waits for number i -/
def waits (md : Region.Mode) (ops : Array Oper) (z i : Nat) : Bool := match ops[z]? with
  | some o => o.after.any fun e => Region.binds md e && decide (e.on = i)
  | none => true
theorem waits_spec {i : Nat} {listed : Array Bool} (h : waits md ops z i = true) (hr : listed.getD i true = false) : z ∉ Region.ready md ops listed := by
  intro hz
  obtain ⟨_, o, ho, hall⟩ := mem_ready.1 hz
  unfold waits at h
  rw [ho] at h
  simp only [Array.any_eq_true, Bool.and_eq_true, decide_eq_true_eq] at h
  obtain ⟨k, hk, hb, he⟩ := h
  have h1 := hall o.after[k] (by simp) hb
  rw [he] at h1
  rcases Nat.lt_or_ge i listed.size with h' | h'
  · simp [h'] at hr h1; rw [hr] at h1; cases h1
  · simp [Array.getElem?_eq_none h'] at h1

theorem wpAnyG_first {i : Nat} {oi : Oper} {v : Value} (hi : ops[i]? = some oi) (hsel : ∀ (j : Nat) (o : Oper) cs b, ops[j]? = some o → o.op ≠ .select cs b)
    (hQ : ∀ c a w, Q (.panic c) (a.put oi.dst v) w → Q (.panic c) a w) (hzi : waits md ops z i = true) :
    ∀ (fuel : Nat) (listed : Array Bool) (a : Act) (w : World),
      (∀ j oj, ops[j]? = some oj → j ≠ i → listed.getD j true = false → (∀ e ∈ oj.after, Region.binds md e = true → e.on ≠ i) → oi.apart ops oj = true) →
      i ∈ Region.ready md ops listed → YieldsIf P ops S oi v a → S w →
      wpAnyG P md ops Q S z fuel (listed.setIfInBounds i true) (a.put oi.dst v) w → wpAnyG P md ops Q S z (fuel + 1) listed a w := by
  intro fuel
  induction fuel with
  | zero =>
    intro listed a w _ hr hy hS H
    refine ⟨fun h => (by rw [h] at hr; cases hr), fun j hj => ?_⟩
    by_cases hji : j = i
    · subst hji; exact hy.wpOp hi hS ⟨.inr hS, H⟩
    · have := ready_mono hj hji
      rw [H.1] at this
      cases this
  | succ fuel ih =>
    intro listed a w hfree hr hy hS H
    refine ⟨fun h => (by rw [h] at hr; cases hr), fun j hj => ?_⟩
    by_cases hji : j = i
    · subst hji; exact hy.wpOp hi hS ⟨.inr hS, H⟩
    · have h1 := H.2 j (ready_mono hj hji)
      have hjz : j ≠ z := fun e => waits_spec hzi (mem_ready.1 hr).1 (e ▸ hj)
      obtain ⟨hjun, oj, hoj, hall⟩ := mem_ready.1 hj
      have hnot : ∀ e ∈ oj.after, Region.binds md e = true → e.on ≠ i := fun e he hb heq => by
        have h1 := hall e he hb
        have h0 := (mem_ready.1 hr).1
        rw [heq] at h1
        rcases Nat.lt_or_ge i listed.size with h' | h'
        · simp [h'] at h0 h1; rw [h0] at h1; cases h1
        · simp [Array.getElem?_eq_none h'] at h1
      have h2 := wpOp_putIf hoj (hfree j oj hoj hji hjun hnot) (fun cs b => hsel i oi cs b hi) (fun cs b => hsel j oj cs b hoj) hQ hy h1
      have hfree' : ∀ k ok, ops[k]? = some ok → k ≠ i → (listed.setIfInBounds j true).getD k true = false →
          (∀ e ∈ ok.after, Region.binds md e = true → e.on ≠ i) → oi.apart ops ok = true := fun k ok hk hki hun hno => by
        refine hfree k ok hk hki ?_ hno
        by_cases hjk : j = k
        · subst hjk; exact hjun
        · rw [getD_set_ne true hjk] at hun; exact hun
      refine wpOp_mono (fun a' w' h3 => ?_) h2
      have hS' : S w' := h3.2.1.resolve_left hjz
      refine ⟨.inr hS', ih (listed.setIfInBounds j true) a' w' hfree' (ready_mono hr (Ne.symm hji)) h3.1 hS' ?_⟩
      rw [Array.setIfInBounds_comm _ _ hji]
      exact h3.2.2

/-- the walk along a plan: (true, i): number i only reads, and is taken first; (false, i): number i alone may come up -/
def Plan (P : Program) (ops : Array Oper) (Q : Exit → Act → World → Prop) (S : World → Prop) (z : Nat) : List (Bool × Nat) → Act → World → Prop
  | [], a, w => Q .normal a w
  | (true, i) :: rest, a, w => ∃ o v, ops[i]? = some o ∧ YieldsIf P ops S o v a ∧ Plan P ops Q S z rest (a.put o.dst v) w
  | (false, i) :: rest, a, w => wpOp P ops Q i (fun a' w' => (i = z ∨ S w') ∧ Plan P ops Q S z rest a' w') a w
def okPlan (md : Region.Mode) (ops : Array Oper) (z : Nat) : List (Bool × Nat) → Array Bool → Bool
  | [], listed => (Region.ready md ops listed).isEmpty
  | (true, i) :: rest, listed => Region.free md ops listed i && (Region.ready md ops listed).contains i && waits md ops z i && okPlan md ops z rest (listed.setIfInBounds i true)
  | (false, i) :: rest, listed => decide (Region.ready md ops listed = [i]) && (decide (i ≠ z) || rest.all fun p => !p.1) && okPlan md ops z rest (listed.setIfInBounds i true)
theorem plan_G (hsel : Region.noSelect ops = true) (hQ : ∀ c a d v w, Q (.panic c) (a.put d v) w → Q (.panic c) a w) : ∀ (plan : List (Bool × Nat)) (listed : Array Bool) (a : Act) (w : World), okPlan md ops z plan listed = true →
    (S w ∨ (plan.all fun p => !p.1) = true) → Plan P ops Q S z plan a w → wpAnyG P md ops Q S z plan.length listed a w
  | [], listed, a, w, hok, _, h => ⟨by simpa [okPlan] using hok, h⟩
  | (true, i) :: rest, listed, a, w, hok, hS, h => by
    unfold okPlan at hok
    simp only [Bool.and_eq_true] at hok
    obtain ⟨⟨⟨h1, h2⟩, h3⟩, h4⟩ := hok
    obtain ⟨o, v, ho, hy, hr⟩ := h
    have hS' : S w := hS.resolve_right (by simp)
    exact wpAnyG_first ho (Region.noSelect_spec hsel) (fun c a w => hQ c a _ _ w) h3 rest.length listed a w (Region.free_spec ho h1) (by simpa using h2) hy hS' (plan_G hsel hQ rest _ _ w h4 (.inl hS') hr)
  | (false, i) :: rest, listed, a, w, hok, hS, h => by
    unfold okPlan at hok
    simp only [Bool.and_eq_true, decide_eq_true_eq, Bool.or_eq_true] at hok
    obtain ⟨⟨h1, h2⟩, h3⟩ := hok
    refine ⟨fun h0 => (by rw [h1] at h0; cases h0), fun j hj => ?_⟩
    rw [h1] at hj
    obtain rfl : j = i := by simpa using hj
    refine wpOp_mono (fun a' w' h' => ⟨h'.1, plan_G hsel hQ rest _ a' w' h3 ?_ h'.2⟩) h
    rcases h'.1 with e | hs
    · rcases h2 with h2 | h2
      · exact absurd e h2
      · exact .inr h2
    · exact .inl hs

/-- the whole region: it does not panic -/
theorem wp_region_plan {id : Nat} {a : Act} {w : World} (plan : List (Bool × Nat)) (z : Nat) (S : World → Prop) (hm : P.follows .mixedOrders = true) (hsel : Region.noSelect ops = true)
    (hok : okPlan .any ops z plan (Array.replicate ops.size false) = true) (hlen : plan.length = ops.size) (hS : S w.drew)
    (h : Plan P ops (NoPanic Q) S z plan a w.drew) : (Code.region id ops true).wp P Q a w := by
  refine wp_region_noPanic (wp_region_any hm (wpAny_of_G (S := S) (z := z) _ _ _ _ ?_))
  have := plan_G hsel (fun _ _ _ _ _ h => h) plan _ a w.drew hok (.inl hS) h
  rw [hlen] at this
  exact this

section
variable {i : Nat} {rest : List (Bool × Nat)} {a : Act} {w : World}
theorem plan_val (o : Oper) (v : Value) (hl0 : ops.toList[i]? = some o) (hw : Region.wanted o (yielded ops a.tmps) = true) (hv : ∀ w, S w → (execOp a.eval o).run P w = .ok (.value v) w)
    (h : Plan P ops Q S z rest (a.put o.dst v) w) : Plan P ops Q S z ((true, i) :: rest) a w := ⟨o, v, by simpa using hl0, .inl ⟨hw, hv⟩, h⟩
theorem plan_skip (o : Oper) (hl0 : ops.toList[i]? = some o) (hw : Region.wanted o (yielded ops a.tmps) = false) (h : Plan P ops Q S z rest (a.put o.dst undef) w) : Plan P ops Q S z ((true, i) :: rest) a w :=
  ⟨o, undef, by simpa using hl0, .inr ⟨hw, rfl⟩, h⟩
theorem plan_op (o : Oper) (hl0 : ops.toList[i]? = some o) (hw : Region.wanted o (yielded ops a.tmps) = true) (h : Oper.wp P o a w (fun a' w' => (i = z ∨ S w') ∧ Plan P ops Q S z rest a' w') Q) : Plan P ops Q S z ((false, i) :: rest) a w := by
  have ho : ops[i]? = some o := by simpa using hl0
  unfold Plan Go.wpOp
  simp only [ho, hw, if_true]
  exact .inl h
theorem plan_do (o : Oper) (u : Value) (w' : World) (hl0 : ops.toList[i]? = some o) (hw : Region.wanted o (yielded ops a.tmps) = true) (hv : (execOp a.eval o).run P w = .ok (.value u) w') (hS : i = z ∨ S w')
    (h : Plan P ops Q S z rest (a.put o.dst u) w') : Plan P ops Q S z ((false, i) :: rest) a w := by
  refine plan_op o hl0 hw ?_
  simp only [Oper.wp, hv, Oper.upon]
  exact ⟨hS, h⟩
theorem plan_store (o : Oper) (w' : World) (hl0 : ops.toList[i]? = some o) (hw : Region.wanted o (yielded ops a.tmps) = true) (hv : (execOp a.eval o).run P w = .ok .skip w') (hS : i = z ∨ S w')
    (h : Plan P ops Q S z rest (a.put o.dst undef) w') : Plan P ops Q S z ((false, i) :: rest) a w := by
  refine plan_op o hl0 hw ?_
  simp only [Oper.wp, hv, Oper.upon]
  exact ⟨hS, h⟩
theorem plan_call (o : Oper) (f : FuncId) (args : Array Value) (hl0 : ops.toList[i]? = some o) (hw : Region.wanted o (yielded ops a.tmps) = true) (hv : (execOp a.eval o).run P w = .ok (.enter f args) w)
    (hc : Calls P f args w fun e w'' => ∃ u, e = .returned u ∧ (i = z ∨ S w'') ∧ Plan P ops Q S z rest (a.put o.dst u) w'') : Plan P ops Q S z ((false, i) :: rest) a w := by
  refine plan_op o hl0 hw ?_
  simp only [Oper.wp, hv, Oper.upon]
  refine Calls.mono hc fun e w'' he => ?_
  obtain ⟨u, rfl, h1, h2⟩ := he
  exact ⟨h1, h2⟩
/-- append of m elements that lie from place p of block g on -/
theorem plan_app {w0 : World} {s x : Operand} {t e : TypeId} {zv : Value} {size bytes : Nat} (o : Oper)
    (T : SliceT P t e zv size bytes) (us : List Value) {base : Nat} {v : Value} {n m g p c : Nat} {xs : List Value}
    (hown : w.ownsRow base e size v n xs) (hb : Below base w0 w) (hbase : base ≤ w0.heap.size)
    (hl0 : ops.toList[i]? = some o) (hw : Region.wanted o (yielded ops a.tmps) = true)
    (ho : o.op = .call { callee := .builtin .append, args := #[s, x], argTypes := #[t, t] })
    (hs : a.eval s = v) (hx : a.eval x = .slice (some ⟨g, p, none⟩) m c)
    (hl : us.length = m * size) (hnews : ∀ j u, us[j]? = some u → w.cell? ⟨g, p + j, none⟩ = some u) (h1 : ∀ u ∈ us, u.oneCell' = true) (hbytes : (n + m) * bytes ≤ 140737488355328)
    (h : ∀ v' w', w'.ownsRow base e size v' (n + m) (xs ++ us) → Below base w0 w' → w.grownBy w' v.ownBlock → (v'.ownBlock = v.ownBlock ∨ v'.ownBlock = some w.heap.size) →
      (i = z ∨ S w') ∧ Plan P ops Q S z rest (a.put o.dst v') w') : Plan P ops Q S z ((false, i) :: rest) a w :=
  plan_op o hl0 hw (wp_app T us hown hb hbase ho hs hx hl hnews h1 hbytes h)
theorem plan_end (h : Q .normal a w) : Plan P ops (NoPanic Q) S z [] a w := h
end
end
end Go.Proofs.Ytaacfjeddoekfaa
