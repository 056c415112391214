import Derived.Test.YtmmakljmikdooaaDoorTw18
import Derived.Test.YtmmakljmikdooaaDoorTwPlanT
import Derived.Deep.CutBlock
/- Chapter 2: the program's Read, of a printed chart. -/
namespace Go.Proofs.YtmmakljmikdooaaDoor
open Go.RowKit
set_option linter.unusedVariables false
set_option linter.unusedSimpArgs false

/-- what Read has while it reads -/
structure RdI (w W : World) (n1 n2 n3 : Nat) (l : List UInt8) (g : Int) (at_ : Nat) (wd : Nat) (k : Nat) (u : Value) (xs : List Int) : Prop where
  e1 : n1 = w.heap.size + 1
  e2 : n2 = w.heap.size + 2
  e3 : n3 = w.heap.size + 3
  r0 : Arr W w.heap.size 24 [.int .i64 0, .int .i64 0, .int .i64 0, .slice none 0 0]
  r1 : Arr W n1 38 [.int .i64 0, .int .i64 0]
  rd : Arr W n2 70 [.string ⟨l.toArray⟩, .int .i64 (at_ : Int)]
  rc : Arr W n3 24 [.int .i64 g, .int .i64 (wd : Int), .int .i64 (k : Int), u]
  own : W.ownsRow (w.heap.size + 4) 3 1 u xs.length (xs.map (Value.int .i64))
  below : Below w.heap.size w W
section
variable {w W : World} {n1 n2 n3 : Nat} {l : List UInt8} {g : Int} {p wd k : Nat} {u : Value} {xs : List Int}
theorem RdI.next {W' : World} (h : RdI w W n1 n2 n3 l g p wd k u xs) (hb : Below W.heap.size W W') : RdI w W' n1 n2 n3 l g p wd k u xs :=
  ⟨h.e1, h.e2, h.e3, h.r0.of_eq (hb.block _ h.r0.lt), h.r1.of_eq (hb.block _ h.r1.lt), h.rd.of_eq (hb.block _ h.rd.lt), h.rc.of_eq (hb.block _ h.rc.lt), own_below h.own hb (Nat.le_refl _), h.below.trans (hb.mono h.below.size)⟩
theorem RdI.setAt (h : RdI w W n1 n2 n3 l g p wd k u xs) (q : Int) (q' : Nat) (e : q = (q' : Int)) : RdI w (W.setCell ⟨n2, 1, none⟩ (.int .i64 q)) n1 n2 n3 l g q' wd k u xs :=
  have e1 := h.e1
  have e2 := h.e2
  have e3 := h.e3
  ⟨e1, e2, e3, h.r0.far (by show _ ≠ n2; omega) _, h.r1.far (by show _ ≠ n2; omega) _, by rw [e]; exact h.rd.set 1 _, h.rc.far (by show _ ≠ n2; omega) _, own_kept_lt h.own (grownBy_set W _ _ _) (by omega), h.below.setCell (by show _ ≤ n2; omega) _⟩
theorem RdI.setC (h : RdI w W n1 n2 n3 l g p wd k u xs) (j : Nat) (v : Value) {g' : Int} {wd' k' : Nat} (e : [Value.int .i64 g, .int .i64 (wd : Int), .int .i64 (k : Int), u].set j v = [.int .i64 g', .int .i64 (wd' : Int), .int .i64 (k' : Int), u]) : RdI w (W.setCell ⟨n3, j, none⟩ v) n1 n2 n3 l g' p wd' k' u xs :=
  have e1 := h.e1
  have e2 := h.e2
  have e3 := h.e3
  ⟨e1, e2, e3, h.r0.far (by show _ ≠ n3; omega) _, h.r1.far (by show _ ≠ n3; omega) _, h.rd.far (by show _ ≠ n3; omega) _, by rw [← e]; exact h.rc.set j v, own_kept_lt h.own (grownBy_set W _ _ _) (by omega), h.below.setCell (by show _ ≤ n3; omega) _⟩
theorem RdI.setU {W8 : World} {v : Value} {ys : List Int} (h : RdI w W n1 n2 n3 l g p wd k u xs) (hb : Below (w.heap.size + 4) W W8) (ho : W8.ownsRow (w.heap.size + 4) 3 1 v ys.length (ys.map (Value.int .i64))) : RdI w (W8.setCell ⟨n3, 3, none⟩ v) n1 n2 n3 l g p wd k v ys :=
  have e1 := h.e1
  have e2 := h.e2
  have e3 := h.e3
  ⟨e1, e2, e3, (h.r0.of_eq (hb.block _ (by omega))).far (by show _ ≠ n3; omega) _, (h.r1.of_eq (hb.block _ (by omega))).far (by show _ ≠ n3; omega) _, (h.rd.of_eq (hb.block _ (by omega))).far (by show _ ≠ n3; omega) _, (h.rc.of_eq (hb.block _ (by omega))).set 3 v,
   own_kept_lt ho (grownBy_set W8 _ _ _) (by omega), (h.below.trans (hb.mono (by omega))).setCell (by show _ ≤ n3; omega) _⟩
theorem RdI.row {W' : World} (h : RdI w W n1 n2 n3 l g p wd k u xs) (hg : W.grownBy W' (some n2)) {q : Nat} (hx : Arr W' n2 70 [.string ⟨l.toArray⟩, .int .i64 (q : Int)]) : RdI w W' n1 n2 n3 l g q wd k u xs :=
  have e1 := h.e1
  have e2 := h.e2
  have e3 := h.e3
  ⟨e1, e2, e3, h.r0.grown hg (by simp; omega), h.r1.grown hg (by simp; omega), hx, h.rc.grown hg (by simp; omega), own_kept_lt h.own hg (by omega), h.below.grown hg h.below.size (fun b e => by injection e with e; omega)⟩
theorem RdI.lts (h : RdI w W n1 n2 n3 l g p wd k u xs) : n2 < W.heap.size ∧ n3 < W.heap.size ∧ w.heap.size + 4 ≤ W.heap.size := by
  have := h.rd.lt
  have := h.rc.lt
  have := h.e3
  omega
end
set_option maxRecDepth 100000 in
set_option maxHeartbeats 4000000 in
theorem Read_any {c : Ch} {W H : Nat} (w : World) (ht : Tabs w) (hc : OkC c W H) :
    Calls Tryd.prog 13 #[.string ⟨(printF c W H).toArray⟩] w fun e w' => ∃ u, e = .returned (.tuple #[.agg #[.int .i64 c.g, .int .i64 c.w, .int .i64 c.h, u], .agg #[.int .i64 0, .int .i64 0]]) ∧
      Ints w' (fun b => w.heap.size ≤ b ∧ b < w'.heap.size) u c.cs ∧ Below w.heap.size w w' := by
  have HT := Lib.hid ht
  have HOK := Lib.hid hc
  have hlen := printF_len hc
  have b1 := hc.W1
  have b2 := hc.W2
  have b3 := hc.H1
  have b4 := hc.H2
  have hg := hc.g
  obtain ⟨hh1, hh2, hh3⟩ := read_head c W H
  have HH1 := Lib.hid hh1
  have HH2 := Lib.hid hh2
  have HH3 := Lib.hid hh3
  have HEND := Lib.hid (posB_end c W H)
  have HLT : Hid (∀ k, k < H → posB c W H k < (printF c W H).length) := fun k hk => posB_lt hk
  have HLN : Hid (∀ k, k < H → ∃ ps, LineAt (printF c W H) (posB c W H k) (rowC c W (H - 1 - k)) ps) := fun k hk => posB_line hc hk
  have HNX : Hid (∀ k, posB c W H (k + 1) = posB c W H k + (lineB (rowC c W (H - 1 - k))).length) := fun k => posB_next c W H k
  have HRL : Hid (∀ k, k < H → (rowC c W (H - 1 - k)).length = W) := fun k hk => hc.row_len (by omega)
  have HAC : Hid (∀ k, k < H → accC c W H (k + 1) = rowC c W (H - 1 - k) ++ accC c W H k) := fun k hk => accC_next hk
  have HAL : Hid (∀ k, k ≤ H → (accC c W H k).length = k * W) := fun k hk => accC_len hc k hk
  have HA0 := Lib.hid (accC_zero hc)
  have HAE := Lib.hid (accC_end c W H)
  have HCW := Lib.hid hc.w
  have HCH := Lib.hid hc.h
  have hw4 : 2 ≤ w.heap.size := ht.lt
  clear hc ht hh1 hh2 hh3
  generalize hl : printF c W H = l at *
  generalize posB c W H = pos at *
  generalize accC c W H = acc at *
  obtain ⟨row, hrow⟩ : ∃ row : Nat → List Int, ∀ k, rowC c W (H - 1 - k) = row k := ⟨_, fun _ => rfl⟩
  simp only [hrow] at HLN HNX HRL HAC
  clear hrow hl
  have hsz : ByteArray.size ⟨l.toArray⟩ = l.length := size_mk l
  have q0 : decide ((l.length : Int) > 65536) = false := decide_eq_false (by omega)
  have HI0 : Hid (RdI w ((((w.alloc (.cells #[.int .i64 0, .int .i64 0, .int .i64 0, .slice none 0 0] 24)).alloc (.cells #[.int .i64 0, .int .i64 0] 38)).alloc (.cells #[.string ⟨l.toArray⟩, .int .i64 0] 70)).alloc (.cells #[.int .i64 0, .int .i64 0, .int .i64 0, .slice none 0 0] 24)) (w.heap.size + 1) (w.heap.size + 1 + 1) (w.heap.size + 1 + 1 + 1) l 0 0 0 0 (.slice none 0 0) []) :=
    ⟨rfl, rfl, rfl, (((Arr.new w _ 24).alloc _).alloc _).alloc _, by simpa using ((Arr.new (w.alloc _) _ 38).alloc _).alloc _, by simpa using (Arr.new ((w.alloc _).alloc _) _ 70).alloc _, by simpa using Arr.new (((w.alloc _).alloc _).alloc _) _ 24, World.ownsRow_nil _ _ _ _, below_al (below_al (al2 w _ _) (Nat.le_refl _) _) (Nat.le_refl _) _⟩
  go_enter Tryd.func13, Tryd.ntmps13
  go_upto_region 6 with fail
  generalize (((w.alloc (.cells #[.int .i64 0, .int .i64 0, .int .i64 0, .slice none 0 0] 24)).alloc (.cells #[.int .i64 0, .int .i64 0] 38)).alloc (.cells #[.string ⟨l.toArray⟩, .int .i64 0] 70)).alloc (.cells #[.int .i64 0, .int .i64 0, .int .i64 0, .slice none 0 0] 24) = w0 at *
  generalize w.heap.size + 1 = n1 at *
  generalize n1 + 1 = n2 at *
  generalize n2 + 1 = n3 at *
  have HTT : Hid (∀ W, Below w.heap.size w W → Tabs W) := fun W hb => HT.out.below hb hw4
  have hsg1 : c.g = 4 → (if c.g = 4 then 9633 else 9651) = 9633 := fun h => if_pos h
  have hsg2 : c.g = 6 → (if c.g = 4 then 9633 else 9651) = 9651 := fun h => if_neg (by omega)
  generalize (if c.g = 4 then 9633 else 9651) = sg at *
  have HSG1 := Lib.hid hsg1
  have HSG2 := Lib.hid hsg2
  clear hsg1 hsg2
  have HN1 := Lib.hid (next_at (HTT.out _ HI0.out.below) HI0.out.rd (show 0 < l.length by have := HLT.out 0 (by omega); omega) (by omega) HH1.out)
  go_wp2_with fail
  refine HN1.out.mono ?_
  rintro e w1 ⟨rfl, k1⟩
  have HI1 := Lib.hid (HI0.out.next k1)
  clear k1 HN1 HI0
  go_upto_block 0 with fail
  go_cut [] from 27 to 45 (fun wx => RdI w wx n1 n2 n3 l c.g 3 0 0 (.slice none 0 0) [])
  case first =>
    have z0 := HI1.out.rc.free 0
    have z1 := HI1.out.rd.free 1
    have y0 := HI1.out.rc.cell (k := 0) rfl
    have y1 := HI1.out.rd.cell (k := 1) rfl
    rcases hg with hg | hg
    · have e := HSG1.out hg
      subst e
      go_wp2_with fail
      go_meet
      rw [hg]
      exact (HI1.out.setC 0 _ rfl).setAt 3 3 rfl
    · have e := HSG2.out hg
      subst e
      go_wp2_with fail
      go_meet
      rw [hg]
      exact (HI1.out.setC 0 _ rfl).setAt 3 3 rfl
  case rest =>
  have HI2 := Lib.hid hcut
  clear hcut HI1 hg
  rename World => w2
  have HN2 := Lib.hid (next_at (HTT.out _ HI2.out.below) HI2.out.rd (show 3 < l.length by have := HLT.out 0 (by omega); have := HH3.out; omega) (by omega) HH2.out)
  go_wp2_with fail
  refine HN2.out.mono ?_
  rintro e w3 ⟨rfl, k1⟩
  have HI3 := Lib.hid (HI2.out.next k1)
  clear k1 HN2 HI2
  have x1 := HI3.out.rd.cell (k := 1) rfl
  have f1 := HI3.out.rd.free 1
  go_wp2_with fail
  have HI4 : Hid (RdI w (w3.setCell ⟨n2, 1, none⟩ (.int .i64 4)) n1 n2 n3 l c.g (pos 0) 0 0 (.slice none 0 0) (acc 0)) := by
    show RdI ..
    rw [HA0.out, HH3.out]
    exact HI3.out.setAt 4 4 rfl
  clear x1 f1 HI3 HA0 HH3
  go_loopg [] (H + 1) (fun gg wr => ∃ (k : Nat) (u : Value), k ≤ H ∧ gg = H + 1 - k ∧ RdI w wr n1 n2 n3 l c.g (pos k) (if k = 0 then 0 else W) k u (acc k))
  case atStart => exact ⟨0, _, Nat.zero_le _, rfl, HI4.out⟩
  case round =>
    clear HI4
    obtain ⟨k, u, hk, rfl, hi⟩ := hrel
    have HI := Lib.hid hi
    clear hi
    rename World => w4
    have x1 := HI.out.rd.cell (k := 1) rfl
    have y2 := HI.out.rc.cell (k := 2) rfl
    by_cases hlt : k < H
    case neg =>
      obtain rfl : k = H := by omega
      clear x1
      rw [HEND.out] at HI
      have q2 : ((k : Int) == 0) = false := by rw [beq_eq_false_iff_ne]; omega
      rw [HAE.out, if_neg (by omega)] at HI
      have x1 := HI.out.rd.cell (k := 1) rfl
      obtain ⟨Au, cu, rfl, hac, hac2⟩ := own_form HI.out.own
      have y0 := HI.out.rc.cell (k := 0) rfl
      have y1 := HI.out.rc.cell (k := 1) rfl
      have y3 := HI.out.rc.cell (k := 3) rfl
      have r00 := HI.out.r0.cell (k := 0) rfl
      have r01 := HI.out.r0.cell (k := 1) rfl
      have r02 := HI.out.r0.cell (k := 2) rfl
      have r03 := HI.out.r0.cell (k := 3) rfl
      have r10 := HI.out.r1.cell (k := 0) rfl
      have r11 := HI.out.r1.cell (k := 1) rfl
      have g0 := HI.out.r0.free 0
      have g1 := HI.out.r0.free 1
      have g2 := HI.out.r0.free 2
      have g3 := HI.out.r0.free 3
      have g4 := HI.out.r1.free 0
      have g5 := HI.out.r1.free 1
      clear hac hac2
      have e1 := HI.out.e1
      subst e1
      have HLI := Lib.hid HI.out.lts
      have HE3 := Lib.hid HI.out.e3
      have HF0 : Hid (Arr ((((((w4.setCell ⟨w.heap.size, 0, none⟩ (.int .i64 c.g)).setCell ⟨w.heap.size, 1, none⟩ (.int .i64 (W : Int))).setCell ⟨w.heap.size, 2, none⟩ (.int .i64 (k : Int))).setCell ⟨w.heap.size, 3, none⟩ (.slice Au c.cs.length cu)).setCell ⟨w.heap.size + 1, 0, none⟩ (.int .i64 0)).setCell ⟨w.heap.size + 1, 1, none⟩ (.int .i64 0)) w.heap.size 24 [.int .i64 c.g, .int .i64 (W : Int), .int .i64 (k : Int), .slice Au c.cs.length cu]) :=
        (((((HI.out.r0.set 0 (.int .i64 c.g)).set 1 (.int .i64 (W : Int))).set 2 (.int .i64 (k : Int))).set 3 (.slice Au c.cs.length cu)).far (by simp) _).far (by simp) _
      have HF1 : Hid (Arr ((((((w4.setCell ⟨w.heap.size, 0, none⟩ (.int .i64 c.g)).setCell ⟨w.heap.size, 1, none⟩ (.int .i64 (W : Int))).setCell ⟨w.heap.size, 2, none⟩ (.int .i64 (k : Int))).setCell ⟨w.heap.size, 3, none⟩ (.slice Au c.cs.length cu)).setCell ⟨w.heap.size + 1, 0, none⟩ (.int .i64 0)).setCell ⟨w.heap.size + 1, 1, none⟩ (.int .i64 0)) (w.heap.size + 1) 38 [.int .i64 0, .int .i64 0]) :=
        (((((HI.out.r1.far (by simp) _).far (by simp) _).far (by simp) _).far (by simp) _).set 0 (.int .i64 0)).set 1 (.int .i64 0)
      have HFO : Hid (Ints ((((((w4.setCell ⟨w.heap.size, 0, none⟩ (.int .i64 c.g)).setCell ⟨w.heap.size, 1, none⟩ (.int .i64 (W : Int))).setCell ⟨w.heap.size, 2, none⟩ (.int .i64 (k : Int))).setCell ⟨w.heap.size, 3, none⟩ (.slice Au c.cs.length cu)).setCell ⟨w.heap.size + 1, 0, none⟩ (.int .i64 0)).setCell ⟨w.heap.size + 1, 1, none⟩ (.int .i64 0)) (fun b => w.heap.size ≤ b ∧ b < ((((((w4.setCell ⟨w.heap.size, 0, none⟩ (.int .i64 c.g)).setCell ⟨w.heap.size, 1, none⟩ (.int .i64 (W : Int))).setCell ⟨w.heap.size, 2, none⟩ (.int .i64 (k : Int))).setCell ⟨w.heap.size, 3, none⟩ (.slice Au c.cs.length cu)).setCell ⟨w.heap.size + 1, 0, none⟩ (.int .i64 0)).setCell ⟨w.heap.size + 1, 1, none⟩ (.int .i64 0)).heap.size) (.slice Au c.cs.length cu) c.cs) :=
        (Ints.of_own (own_kept_lt (own_kept_lt (own_kept_lt (own_kept_lt (own_kept_lt (own_kept_lt HI.out.own (grownBy_set _ _ _ _) (by omega)) (grownBy_set _ _ _ _) (by omega)) (grownBy_set _ _ _ _) (by omega)) (grownBy_set _ _ _ _) (by omega)) (grownBy_set _ _ _ _) (by omega)) (grownBy_set _ _ _ _) (by omega))).mono fun b h => ⟨by omega, h.2⟩
      have HFB : Hid (Below w.heap.size w ((((((w4.setCell ⟨w.heap.size, 0, none⟩ (.int .i64 c.g)).setCell ⟨w.heap.size, 1, none⟩ (.int .i64 (W : Int))).setCell ⟨w.heap.size, 2, none⟩ (.int .i64 (k : Int))).setCell ⟨w.heap.size, 3, none⟩ (.slice Au c.cs.length cu)).setCell ⟨w.heap.size + 1, 0, none⟩ (.int .i64 0)).setCell ⟨w.heap.size + 1, 1, none⟩ (.int .i64 0))) :=
        (((((HI.out.below.setCell (Nat.le_refl _) _).setCell (Nat.le_refl _) _).setCell (Nat.le_refl _) _).setCell (Nat.le_refl _) _).setCell (Nat.le_succ _) _).setCell (Nat.le_succ _) _
      go_wp2_with fail
      clear g0 g1 g2 g3 g4 g5 r00 r01 r02 r03 r10 r11 y0 y1 y3 x1
      generalize (((((w4.setCell ⟨w.heap.size, 0, none⟩ (.int .i64 c.g)).setCell ⟨w.heap.size, 1, none⟩ (.int .i64 (W : Int))).setCell ⟨w.heap.size, 2, none⟩ (.int .i64 (k : Int))).setCell ⟨w.heap.size, 3, none⟩ (.slice Au c.cs.length cu)).setCell ⟨w.heap.size + 1, 0, none⟩ (.int .i64 0)).setCell ⟨w.heap.size + 1, 1, none⟩ (.int .i64 0) = wf at *
      have q0 := HF0.out.cell (k := 0) rfl
      have q1 := HF0.out.cell (k := 1) rfl
      have q2 := HF0.out.cell (k := 2) rfl
      have q3 := HF0.out.cell (k := 3) rfl
      have q4 := HF1.out.cell (k := 0) rfl
      have q5 := HF1.out.cell (k := 1) rfl
      refine bodyPost_ret (v := .tuple #[.agg #[.int .i64 c.g, .int .i64 (W : Int), .int .i64 (k : Int), .slice Au c.cs.length cu], .agg #[.int .i64 0, .int .i64 0]]) (by simp [results, Tryd.results13, go_sem, q0, q1, q2, q3, q4, q5]) rfl ⟨.slice Au c.cs.length cu, ?_, ?_, ?_⟩
      · rw [HCW.out, HCH.out]
      · exact HFO.out
      · exact HFB.out
    have hpl := HLT.out k hlt
    have q1 : decide (((pos k : Nat) : Int) < (l.length : Int)) = true := decide_eq_true (by omega)
    obtain ⟨ps, hln⟩ := HLN.out k hlt
    have HRW := Lib.hid (row_any l (pos k) n2 (row k) ps w4 (HTT.out _ HI.out.below) HI.out.rd (by have := HI.out.e2; omega) (by omega) hln (by rw [HRL.out k hlt]; exact b1) (by rw [HRL.out k hlt]; exact b2))
    rw [HRL.out k hlt, ← HNX.out k] at HRW
    clear hln
    go_wp2_with fail
    refine HRW.out.mono ?_
    rintro e w5 ⟨v, rfl, k1, k2, k3⟩
    have HI5 := Lib.hid (HI.out.row k2 k3)
    have HOV := Lib.hid (own_base k1 HI.out.lts.2.2)
    obtain ⟨Av, cv, rfl, _, _⟩ := own_form k1
    have hle5 := k2.size
    clear k1 k2 k3 HRW x1 y2 q1
    have y1 := HI5.out.rc.cell (k := 1) rfl
    have y2 := HI5.out.rc.cell (k := 2) rfl
    go_upto_region 22 with fail
    go_cut [100] from 101 to 110 (fun t wx => t = .bool false ∧ wx = w5)
    case first =>
      by_cases h0 : k = 0
      · subst h0
        go_wp2_with fail
        go_meet
        exact ⟨rfl, rfl⟩
      · rw [if_neg h0] at y1
        have q2 : decide ((k : Int) > 0) = true := decide_eq_true (by omega)
        have q3 : ((W : Int) != (W : Int)) = false := by simp
        go_wp2_with fail
        go_meet
        exact ⟨rfl, rfl⟩
    case rest =>
    obtain ⟨rfl, rfl⟩ := hcut
    have q4 : decide ((W : Int) > 64) = false := decide_eq_false (by omega)
    have q5 : ((k : Int) == 64) = false := by rw [beq_eq_false_iff_ne]; omega
    have f1 := HI5.out.rc.free 1
    have f2 := HI5.out.rc.free 2
    go_upto_region 28 with fail
    have HI6 := Lib.hid ((HI5.out.setC 1 (.int .i64 (W : Int)) (wd' := W) rfl).setC 2 (.int .i64 ((k : Int) + 1)) (k' := k + 1) rfl)
    have e3 := HI5.out.e3
    have HOV6 := Lib.hid (own_kept_lt (own_kept_lt HOV.out (grownBy_set wc n3 1 (.int .i64 (W : Int))) (by omega)) (grownBy_set _ n3 2 (.int .i64 ((k : Int) + 1))) (by omega))
    clear HI5 HOV y1 y2 f1 f2 e3
    generalize (wc.setCell ⟨n3, 1, none⟩ (.int .i64 (W : Int))).setCell ⟨n3, 2, none⟩ (.int .i64 ((k : Int) + 1)) = w6 at *
    have HAN := Lib.hid (HAC.out k hlt)
    have hrl := HRL.out k hlt
    have hal := HAL.out k hk
    have hkw : k * W ≤ 64 * 64 := Nat.mul_le_mul (by omega) b2
    have HUN := Lib.hid (News.of_own HI6.out.own (by decide))
    have hll := HI6.out.lts
    have HE4 := Lib.hid HI6.out.e3
    have y3 := HI6.out.rc.cell (k := 3) rfl
    generalize hkk : k * W = kw at *
    go_wp2_with (at_builtin
                 refine app_elsA T22d ((acc k).map (Value.int .i64)) HOV6.out (Below.refl _ _) hll.2.2 rfl rfl rfl rfl HUN.out (by simp) (by simp [Value.oneCell']) (by omega) ?_
                 intro v1 w8 hown1 hb1 hg1 ho1
                 obtain ⟨A9, c9, rfl, _, _⟩ := own_form hown1
                 have y4 := (HI6.out.rc.of_eq (hb1.block n3 (by have := HE4.out; omega))).cell (k := 3) rfl
                 have f3 := (HI6.out.rc.of_eq (hb1.block n3 (by have := HE4.out; omega))).free 3)
    have HOV8 : Hid (w8.ownsRow (w.heap.size + 4) 3 1 (.slice A9 (W + kw) c9) (acc (k + 1)).length ((acc (k + 1)).map (Value.int .i64))) := by
      show World.ownsRow ..
      rw [HAN.out, List.length_append, List.map_append, hrl, hal]
      rw [hal] at hown1
      exact hown1
    have HB8 := Lib.hid hb1
    clear hown1 hb1 hg1 ho1 y4 f3 y3
    go_roundg (H + 1 - (k + 1))
    case measure => omega
    case rel => exact ⟨k + 1, _, by omega, rfl, by rw [if_neg (Nat.succ_ne_zero k)]; exact HI6.out.setU HB8.out HOV8.out⟩
end Go.Proofs.YtmmakljmikdooaaDoor
