/- Texts of the seat, put together: TruthWalk6, TruthWalk7. -/
import Derived.Test.YtmmakljmikdooaaDoorTwTruthWalk5
import Derived.Test.YtmmakljmikdooaaDoorTwPlanIn
/- Chapter 5: the program's Floats. -/
namespace Go.Proofs.YtmmakljmikdooaaDoor
open Go.RowKit
set_option linter.unusedVariables false
set_option linter.unusedSimpArgs false

theorem OkT.turned {m : Tr} (h : OkT m) : OkT m.turned := ⟨h.H1, h.H2, h.W1, h.W2, by simp [Tr.turned]⟩
set_option maxRecDepth 100000 in
set_option maxHeartbeats 4000000 in
theorem Floats_any {S : Nat → Prop} {v : Value} {m : Tr} (w : World) (hv : TrR w S v m) (hS : ∀ b, S b → b < w.heap.size) (hm : OkT m) :
    Calls Tryd.prog 35 #[v] w fun e w' => e = .returned (.tuple #[.int .i64 (longF m.turned true), .int .i64 (longF m false), .int .i64 0]) ∧ Below w.heap.size w w' := by
  have HV := Lib.hid hv
  have HSS := Lib.hid hS
  have HOK := Lib.hid hm
  obtain ⟨A, c, rfl, h1, h2, hr⟩ := hv.form
  have hpos : 1 ≤ m.bs.length := by rw [hm.len]; exact Nat.mul_pos hm.W1 hm.H1
  clear hS hm hv hr
  have HX := Lib.hid (Arr.new w #[.int .i64 (m.w : Int), .int .i64 (m.h : Int), .slice A m.bs.length c] 32)
  have HB0 := Lib.hid (al1 w (.cells #[.int .i64 (m.w : Int), .int .i64 (m.h : Int), .slice A m.bs.length c] 32))
  go_enter Tryd.func35, Tryd.ntmps35
  go_upto_region 1 with fail
  generalize w.alloc (.cells #[.int .i64 (m.w : Int), .int .i64 (m.h : Int), .slice A m.bs.length c] 32) = w0 at *
  have x0 := HX.out.cell (k := 0) rfl
  have x1 := HX.out.cell (k := 1) rfl
  have x2 := HX.out.cell (k := 2) rfl
  go_wp2_with fail
  refine (Turned_any w0 (HV.out.same fun b hb => HB0.out.block b (HSS.out b hb)) (fun b hb => Nat.lt_of_lt_of_le (HSS.out b hb) HB0.out.size) HOK.out).mono ?_
  rintro e w1 ⟨u, rfl, hu, hb1⟩
  have HB1 := Lib.hid (HB0.out.trans (hb1.mono HB0.out.size))
  have HX1 := Lib.hid (HX.out.of_eq (hb1.block _ HX.out.lt))
  have HU := Lib.hid hu
  obtain ⟨A2, c2, rfl, k1, k2, _⟩ := hu.form
  clear hb1 x0 x1 x2 hu
  have HU2 := Lib.hid (HU.out.same (w' := w1.alloc (.cells #[.int .i64 (m.turned.w : Int), .int .i64 (m.turned.h : Int), .slice A2 m.turned.bs.length c2] 32)) fun b hb => Below.heap_alloc _ _ _ hb.2)
  have HZ := Lib.hid (Arr.new w1 #[.int .i64 (m.turned.w : Int), .int .i64 (m.turned.h : Int), .slice A2 m.turned.bs.length c2] 32)
  have hd := al1 w1 (.cells #[.int .i64 (m.turned.w : Int), .int .i64 (m.turned.h : Int), .slice A2 m.turned.bs.length c2] 32)
  go_upto_region 2 with fail
  generalize w1.alloc (.cells #[.int .i64 (m.turned.w : Int), .int .i64 (m.turned.h : Int), .slice A2 m.turned.bs.length c2] 32) = w2 at *
  have HB2 := Lib.hid (HB1.out.trans (hd.mono HB1.out.size))
  have hx := HX1.out.of_eq (hd.block _ HX1.out.lt)
  have x0 := hx.cell (k := 0) rfl
  have x1 := hx.cell (k := 1) rfl
  have x2 := hx.cell (k := 2) rfl
  have HX2 := Lib.hid hx
  have HL2 := Lib.hid hd.size
  clear hd hx
  have g0 : ((m.bs.length : Int) == 0) = false := by rw [beq_eq_false_iff_ne]; omega
  have g0' : (m.bs.length == 0) = false := by rw [beq_eq_false_iff_ne]; omega
  go_upto_region 6 with fail
  have z := HZ.out
  have z0 := z.cell (k := 0) rfl
  have z1 := z.cell (k := 1) rfl
  have z2 := z.cell (k := 2) rfl
  have hzl := z.lt
  have hxl := HX2.out.lt
  have HWB : Hid (Below w.heap.size w w2) := HB2.out
  have HC1 : Hid (∀ w', Below w2.heap.size w2 w' → Calls Tryd.prog 58 #[.agg #[.int .i64 (m.turned.w : Int), .int .i64 (m.turned.h : Int), .slice A2 m.turned.bs.length c2], .bool true] w' fun e w'' => e = .returned (.int .i64 (longF m.turned true)) ∧ Below w'.heap.size w' w'') := fun w' hb =>
    longest_any true w' (HU2.out.same fun b hb2 => hb.block b (by have := HL2.out; have := hb2.2; omega)) (fun b hb2 => by have := HL2.out; have := hb2.2; have := hb.size; omega) HOK.out.turned
  have HC2 : Hid (∀ w', Below w2.heap.size w2 w' → Calls Tryd.prog 58 #[.agg #[.int .i64 (m.w : Int), .int .i64 (m.h : Int), .slice A m.bs.length c], .bool false] w' fun e w'' => e = .returned (.int .i64 (longF m false)) ∧ Below w'.heap.size w' w'') := fun w' hb =>
    longest_any false w' (HV.out.same fun b hb2 => (hb.block b (by have := HSS.out b hb2; have := HWB.out.size; omega)).trans (HWB.out.block b (HSS.out b hb2))) (fun b hb2 => by have := HSS.out b hb2; have := HWB.out.size; have := hb.size; omega) HOK.out
  have HS : Hid (∀ w', Below w2.heap.size w2 w' → Below w2.heap.size w2 w' ∧ w'.cell? ⟨w1.heap.size, 0, none⟩ = some (.int .i64 (m.turned.w : Int)) ∧ w'.cell? ⟨w1.heap.size, 1, none⟩ = some (.int .i64 (m.turned.h : Int)) ∧ w'.cell? ⟨w1.heap.size, 2, none⟩ = some (.slice A2 m.turned.bs.length c2) ∧ w'.cell? ⟨w.heap.size, 0, none⟩ = some (.int .i64 (m.w : Int)) ∧ w'.cell? ⟨w.heap.size, 1, none⟩ = some (.int .i64 (m.h : Int)) ∧ w'.cell? ⟨w.heap.size, 2, none⟩ = some (.slice A m.bs.length c)) := fun w' hb =>
    ⟨hb, (hb.cell (p := ⟨w1.heap.size, 0, none⟩) (by exact hzl)).trans z0, (hb.cell (p := ⟨w1.heap.size, 1, none⟩) (by exact hzl)).trans z1, (hb.cell (p := ⟨w1.heap.size, 2, none⟩) (by exact hzl)).trans z2, (hb.cell (p := ⟨w.heap.size, 0, none⟩) (by exact hxl)).trans x0, (hb.cell (p := ⟨w.heap.size, 1, none⟩) (by exact hxl)).trans x1, (hb.cell (p := ⟨w.heap.size, 2, none⟩) (by exact hxl)).trans x2⟩
  have HS0 := Lib.hid (HS.out _ (below_dN (n := 1) (Below.refl _ _)))
  clear z z0 z1 z2 x0 x1 x2 hzl hxl
  generalize hr1 : longF m.turned true = r1 at *
  generalize hr2 : longF m false = r2 at *
  have HR1 := Lib.hid hr1
  have HR2 := Lib.hid hr2
  clear hr1 hr2
  refine wp_region_seq (fun w' => Below w2.heap.size w2 w' ∧ w'.cell? ⟨w1.heap.size, 0, none⟩ = some (.int .i64 (m.turned.w : Int)) ∧ w'.cell? ⟨w1.heap.size, 1, none⟩ = some (.int .i64 (m.turned.h : Int)) ∧ w'.cell? ⟨w1.heap.size, 2, none⟩ = some (.slice A2 m.turned.bs.length c2) ∧ w'.cell? ⟨w.heap.size, 0, none⟩ = some (.int .i64 (m.w : Int)) ∧ w'.cell? ⟨w.heap.size, 1, none⟩ = some (.int .i64 (m.h : Int)) ∧ w'.cell? ⟨w.heap.size, 2, none⟩ = some (.slice A m.bs.length c))
    (by kernel_rfl) (by kernel_rfl) HS0.out ?_
  show Seq _ _ _ _ [_, _, _, _, _, _, _] _
  repeat (first
    | (refine seq_skip (by rfl) ?_; (try simp only [Act.put, List.setIfInBounds_toArray, List.set_cons_zero, List.set_cons_succ]))
    | (refine seq_val ?_ (by rfl) ?_ ?_
       rotate_left 1
       · intro w6 hS6; go_simp; first | done | with_reducible rfl
       (try simp only [Act.put, List.setIfInBounds_toArray, List.set_cons_zero, List.set_cons_succ]))
    | (refine seq_call ?_ ?_ ?_ (by rfl) ?_ ?_ ?_
       rotate_left 3
       · intro w6 hS6; go_simp; (refine And.intro ?_ ?_ <;> rfl)
       · intro w6 hS6
         first | (with_reducible refine (HC1.out _ hS6.1).mono ?_) | (with_reducible refine (HC2.out _ hS6.1).mono ?_)
         rintro e w7 ⟨rfl, hb7⟩
         refine And.intro ?_ (HS.out _ (hS6.1.trans (hb7.mono hS6.1.size)))
         rfl
       (try simp only [Act.put, List.setIfInBounds_toArray, List.set_cons_zero, List.set_cons_succ])))
  refine seq_end ?_
  intro w6 hS6
  have HB6 := Lib.hid (HB2.out.trans (hS6.1.mono HB2.out.size))
  clear hS6
  go_wp2_with fail
  go_ret3
  refine ⟨?_, HB6.out⟩
  rw [HR1.out, HR2.out]; rfl
end Go.Proofs.YtmmakljmikdooaaDoor
/- Chapter 5: the program's Alike. -/
namespace Go.Proofs.YtmmakljmikdooaaDoor
open Go.RowKit Go.Shelf
set_option linter.unusedVariables false
set_option linter.unusedSimpArgs false
attribute [local go_sem] Oper.semAt_some

def alStep (st : List Nat × List (List Bool)) (r : List Bool) : List Nat × List (List Bool) :=
  if indexR st.2 r < 0 then (st.1 ++ [st.2.length], st.2 ++ [r]) else (st.1 ++ [(indexR st.2 r).toNat], st.2)
def alF (rows : List (List Bool)) : List Nat × List (List Bool) := rows.foldl alStep ([], [])
def alikeF (m : Tr) : List Nat := (alF ((List.range m.h).map m.row)).1
theorem alF_snoc (rows : List (List Bool)) (r : List Bool) : alF (rows ++ [r]) = alStep (alF rows) r := by
  unfold alF
  rw [List.foldl_append]; rfl
theorem alF_len' : ∀ (rows : List (List Bool)) (st : List Nat × List (List Bool)), (rows.foldl alStep st).1.length = st.1.length + rows.length ∧ (rows.foldl alStep st).2.length ≤ st.2.length + rows.length
  | [], st => ⟨rfl, Nat.le_refl _⟩
  | r :: rows, st => by
    have h := alF_len' rows (alStep st r)
    rw [List.foldl_cons]
    have h2 : (alStep st r).1.length = st.1.length + 1 ∧ (alStep st r).2.length ≤ st.2.length + 1 := by
      unfold alStep
      split <;> simp
    simp only [List.length_cons]
    omega
theorem alF_len (rows : List (List Bool)) : (alF rows).1.length = rows.length ∧ (alF rows).2.length ≤ rows.length := by
  have := alF_len' rows ([], [])
  simpa [alF] using this
theorem T157r : SliceT Tryd.prog 157 30 (.slice none 0 0) 1 24 := ⟨Tryd.underlying157, by kernel_rfl, rfl, by decide, by decide⟩
theorem own_from {A B : World} {base : Nat} {e : TypeId} {size n : Nat} {v : Value} {xs : List Value} {row : Option Nat} (h : A.ownsRow base e size v n xs) (hg : A.grownBy B row) (hr : ∀ r, row = some r → ∃ o : Obj, A.heap[r]? = some o ∧ o.isCells = false) : B.ownsRow base e size v n xs := by
  refine h.kept hg ?_
  cases hv : v.ownBlock with
  | none => exact .inl rfl
  | some k =>
    refine .inr fun e => ?_
    obtain ⟨o, ho, hc⟩ := hr k e.symm
    rcases h.2 with ⟨rfl, _⟩ | ⟨g, cap, cur, rfl, _, hgg, _⟩
    · cases hv
    · have : g = k := by simpa [Value.ownBlock] using hv
      subst this
      rw [hgg] at ho
      cases ho
      cases hc
/-- what Alike's loop keeps -/
structure AlkI (w wL W : World) (S : Nat → Prop) (bo bk : Nat) (out : List Nat) (ks : List (List Bool)) : Prop where
  vals : ∃ (ov kv : Value) (vs : List Value), Arr W bo 22 [ov] ∧ Arr W bk 157 [kv] ∧ W.ownsRow wL.heap.size 3 1 ov out.length ((out.map (fun k : Nat => (k : Int))).map (Value.int .i64)) ∧ W.ownsRow wL.heap.size 30 1 kv ks.length vs ∧
    (∀ i (h : i < ks.length) (u : Value), vs[i]? = some u → Bls W S u ks[i]) ∧ Apart ov kv
  old : ∀ b, b < wL.heap.size → b ≠ bo → b ≠ bk → W.heap[b]? = wL.heap[b]?
  size : wL.heap.size ≤ W.heap.size
  below : Below w.heap.size w W
theorem AlkI.grown {w wL W W' : World} {S : Nat → Prop} {bo bk : Nat} {out : List Nat} {ks : List (List Bool)} (h : AlkI w wL W S bo bk out ks) {row : Option Nat} (hg : W.grownBy W' row) (hr : ∀ r, row = some r → wL.heap.size ≤ r ∧ ∃ o : Obj, W.heap[r]? = some o ∧ o.isCells = false)
    (h1 : bo < wL.heap.size) (h2 : bk < wL.heap.size) (hw : w.heap.size ≤ wL.heap.size) (hS : ∀ b, S b → b < w.heap.size) : AlkI w wL W' S bo bk out ks := by
  obtain ⟨ov, kv, vs, k1, k2, k3, k4, k5, k6⟩ := h.vals
  refine ⟨⟨ov, kv, vs, k1.grown hg (fun e => ?_), k2.grown hg (fun e => ?_), own_from k3 hg (fun r e => (hr r e).2), own_from k4 hg (fun r e => (hr r e).2), fun i hi u hu => (k5 i hi u hu).same fun b hb => hg.block b ?_ (fun e => ?_), k6⟩, fun b l1 l2 l3 => (hg.block b (Nat.lt_of_lt_of_le l1 h.size) (fun e => ?_)).trans (h.old b l1 l2 l3), Nat.le_trans h.size hg.size, ?_⟩
  · have := (hr bo e).1; omega
  · have := (hr bk e).1; omega
  · have := hS b hb; have := h.size; omega
  · have := (hr b e.symm).1; have := hS b hb; omega
  · have := (hr b e.symm).1; omega
  · exact h.below.grown hg h.below.size (fun k e => by have := (hr k e).1; omega)
theorem AlkI.pushK {w wL W W8 : World} {S : Nat → Prop} {bo bk m : Nat} {out : List Nat} {ks : List (List Bool)} {row : List Bool} {v1 rv ov kv : Value} {vs : List Value} (h : AlkI w wL W S bo bk out ks)
    (k1 : Arr W bo 22 [ov]) (k2 : Arr W bk 157 [kv]) (k3 : W.ownsRow wL.heap.size 3 1 ov out.length ((out.map (fun k : Nat => (k : Int))).map (Value.int .i64))) (k4 : W.ownsRow wL.heap.size 30 1 kv ks.length vs)
    (k5 : ∀ i (h : i < ks.length) (u : Value), vs[i]? = some u → Bls W S u ks[i]) (k6 : Apart ov kv) (hrv : Bls W S rv row)
    (hown : W8.ownsRow wL.heap.size 30 1 v1 (ks.length + 1) (vs ++ [rv])) (hg : W.grownBy W8 kv.ownBlock) (ho : v1.ownBlock = kv.ownBlock ∨ v1.ownBlock = some m) (hm : W.heap.size ≤ m)
    (hbo : bo < wL.heap.size) (hbk : bk < wL.heap.size) (hne : bo ≠ bk) (hwo : w.heap.size ≤ bk) (hw : w.heap.size ≤ wL.heap.size) (hS : ∀ b, S b → b < w.heap.size) :
    AlkI w wL (W8.setCell ⟨bk, 0, none⟩ v1) S bo bk out (ks ++ [row]) := by
  have hrow : ∀ r, kv.ownBlock = some r → wL.heap.size ≤ r := fun r e => (k4.lt r e).1
  have hb8 : Below w.heap.size w W8 := h.below.grown hg h.below.size (fun k e => by have := hrow k e; omega)
  have hsame : ∀ b, b < wL.heap.size → W8.heap[b]? = W.heap[b]? := fun b hb => hg.block b (Nat.lt_of_lt_of_le hb h.size) (fun e => by have := hrow b e.symm; omega)
  have hbs : ∀ {u : Value} {xs : List Bool}, Bls W S u xs → Bls (W8.setCell ⟨bk, 0, none⟩ v1) S u xs := fun hB => hB.same fun b hb => by
    have := hS b hb
    exact (Below.heap_setCell _ _ _ _ (by show b ≠ bk; omega)).trans (hsame b (by omega))
  have hl : vs.length = ks.length := by have := k4.1; omega
  have hap : Apart ov v1 := (Apart.next k6.symm k3 hm ho).symm
  refine ⟨⟨ov, v1, vs ++ [rv], (k1.of_eq (hsame bo hbo)).far (by show bo ≠ bk; exact hne) _, (k2.of_eq (hsame bk hbk)).set 0 _, own_kept_lt (Apart.kept k6.symm k3 hg) (grownBy_set W8 bk 0 v1) hbk, ?_, fun i hi u hu => ?_, hap⟩, fun b l1 l2 l3 => (Below.heap_setCell _ _ _ _ (by show b ≠ bk; exact l3)).trans ((hsame b l1).trans (h.old b l1 l2 l3)), ?_, hb8.setCell hwo _⟩
  · rw [List.length_append, List.length_singleton]
    exact own_kept_lt hown (grownBy_set W8 bk 0 v1) hbk
  · rcases Nat.lt_or_ge i ks.length with k | k
    · rw [List.getElem?_append_left (by omega)] at hu
      rw [List.getElem_append_left k]
      exact hbs (k5 i k u hu)
    · have e : i = ks.length := by
        rw [List.length_append, List.length_singleton] at hi
        omega
      subst e
      rw [List.getElem?_append_right (by omega)] at hu
      rw [List.getElem_append_right (Nat.le_refl _)]
      simp only [hl, Nat.sub_self, List.getElem?_cons_zero, Option.some.injEq] at hu
      subst hu
      simpa using hbs hrv
  · have := hg.size
    have := h.size
    simp [World.setCell]
    omega
theorem AlkI.pushO {w wL W W8 : World} {S : Nat → Prop} {bo bk m : Nat} {out : List Nat} {ks : List (List Bool)} {x : Nat} {v1 ov kv : Value} {vs : List Value} (h : AlkI w wL W S bo bk out ks)
    (k1 : Arr W bo 22 [ov]) (k2 : Arr W bk 157 [kv]) (k3 : W.ownsRow wL.heap.size 3 1 ov out.length ((out.map (fun k : Nat => (k : Int))).map (Value.int .i64))) (k4 : W.ownsRow wL.heap.size 30 1 kv ks.length vs)
    (k5 : ∀ i (h : i < ks.length) (u : Value), vs[i]? = some u → Bls W S u ks[i]) (k6 : Apart ov kv)
    (hown : W8.ownsRow wL.heap.size 3 1 v1 (out.length + 1) ((out.map (fun k : Nat => (k : Int))).map (Value.int .i64) ++ [.int .i64 (x : Int)])) (hg : W.grownBy W8 ov.ownBlock) (ho : v1.ownBlock = ov.ownBlock ∨ v1.ownBlock = some m) (hm : W.heap.size ≤ m)
    (hbo : bo < wL.heap.size) (hbk : bk < wL.heap.size) (hne : bo ≠ bk) (hwo : w.heap.size ≤ bo) (hw : w.heap.size ≤ wL.heap.size) (hS : ∀ b, S b → b < w.heap.size) :
    AlkI w wL (W8.setCell ⟨bo, 0, none⟩ v1) S bo bk (out ++ [x]) ks := by
  have hrow : ∀ r, ov.ownBlock = some r → wL.heap.size ≤ r := fun r e => (k3.lt r e).1
  have hb8 : Below w.heap.size w W8 := h.below.grown hg h.below.size (fun k e => by have := hrow k e; omega)
  have hsame : ∀ b, b < wL.heap.size → W8.heap[b]? = W.heap[b]? := fun b hb => hg.block b (Nat.lt_of_lt_of_le hb h.size) (fun e => by have := hrow b e.symm; omega)
  have hbs : ∀ {u : Value} {xs : List Bool}, Bls W S u xs → Bls (W8.setCell ⟨bo, 0, none⟩ v1) S u xs := fun hB => hB.same fun b hb => by
    have := hS b hb
    exact (Below.heap_setCell _ _ _ _ (by show b ≠ bo; omega)).trans (hsame b (by omega))
  have hap : Apart v1 kv := Apart.next k6 k4 hm ho
  refine ⟨⟨v1, kv, vs, (k1.of_eq (hsame bo hbo)).set 0 _, (k2.of_eq (hsame bk hbk)).far (by show bk ≠ bo; exact hne.symm) _, ?_, own_kept_lt (Apart.kept k6 k4 hg) (grownBy_set W8 bo 0 v1) hbo, fun i hi u hu => hbs (k5 i hi u hu), hap⟩, fun b l1 l2 l3 => (Below.heap_setCell _ _ _ _ (by show b ≠ bo; exact l2)).trans ((hsame b l1).trans (h.old b l1 l2 l3)), ?_, hb8.setCell hwo _⟩
  · rw [List.length_append, List.length_singleton, List.map_append, List.map_append]
    exact own_kept_lt hown (grownBy_set W8 bo 0 v1) hbo
  · have := hg.size
    have := h.size
    simp [World.setCell]
    omega
theorem AlkI.dN {w wL W : World} {S : Nat → Prop} {bo bk : Nat} {out : List Nat} {ks : List (List Bool)} (h : AlkI w wL W S bo bk out ks) (n : Nat) : AlkI w wL (W.drewN n) S bo bk out ks := by
  obtain ⟨ov, kv, vs, k1, k2, k3, k4, k5, k6⟩ := h.vals
  exact ⟨⟨ov, kv, vs, k1.dN n, k2.dN n, own_dN k3, own_dN k4, fun i hi u hu => (k5 i hi u hu).same fun _ _ => rfl, k6⟩, h.old, h.size, below_dN h.below⟩
theorem indexR_range {xs : List (List Bool)} {v : List Bool} : indexR xs v = -1 ∨ ∃ i : Nat, i < xs.length ∧ indexR xs v = (i : Int) := by
  unfold indexR
  split
  next i h => exact .inr ⟨i, (List.findIdx?_eq_some_iff_getElem.1 h).1, rfl⟩
  next => exact .inl rfl
theorem own_cells {A : World} {base : Nat} {e : TypeId} {size n : Nat} {v : Value} {xs : List Value} (h : A.ownsRow base e size v n xs) : ∀ (j : Nat) (o : Obj), v.ownBlock = some j → A.heap[j]? = some o → o.isCells = true := by
  intro j o hj ho
  rcases h.2 with ⟨rfl, _⟩ | ⟨g, cap, cur, rfl, _, hgg, _⟩
  · cases hj
  · have : g = j := by simpa [Value.ownBlock] using hj
    subst this
    rw [hgg] at ho
    cases ho
    rfl
end Go.Proofs.YtmmakljmikdooaaDoor
