/- Texts of the seat, put together: CardWalk2, HouseWalk1. -/
import Derived.Test.YtmmakljmikdooaaDoorTw18
import Derived.Laws.BytesArg
import Derived.Lib.SlBytesConst
import Derived.ArgAppend
import Derived.Deep.CutBlock
import Derived.Test.YtmmakljmikdooaaDoorTwPlanT
import Derived.Test.YtmmakljmikdooaaDoorTwClothWalk3
/- Chapter 8: the program's Pack (that it answers). -/
namespace Go.Proofs.YtmmakljmikdooaaDoor
open Go.RowKit
set_option linter.unusedVariables false
set_option linter.unusedSimpArgs false

/-- bytes of the call's own -/
def OB (W : World) (base : Nat) (v : Value) (ns : List Int) : Prop := W.ownsRow base 5 1 v ns.length (ns.map (Value.int .u8))
/-- append of the elements of the block that was just laid -/
theorem app_news {P : Program} {w w0 : World} {ops : Array Oper} {rest : List Oper} {o : Oper} {a : Act} {Q : Exit → Act → World → Prop} {s x : Operand} {t e : TypeId} {z : Value} {size bytes : Nat}
    (T : SliceT P t e z size bytes) (us : List Value) {base : Nat} {v : Value} {n m c : Nat} {xs : List Value} {et : TypeId}
    (hown : w.ownsRow base e size v n xs) (hb : Below base w0 w) (hbase : base ≤ w0.heap.size)
    (hgd : o.guard = none)
    (ho : o.op = .call { callee := .builtin .append, args := #[s, x], argTypes := #[t, t] })
    (hs : a.eval s = v) (hx : a.eval x = .slice (some ⟨w.heap.size, 0, none⟩) m c)
    (hl : us.length = m * size) (h1 : ∀ u ∈ us, u.oneCell' = true) (hbytes : (n + m) * bytes ≤ 140737488355328)
    (h : ∀ v' w', w'.ownsRow base e size v' (n + m) (xs ++ us) → Below base w0 w' → wpList P ops Q rest (a.put o.dst v') w') : wpList P ops Q (o :: rest) a (w.alloc (.cells us.toArray et)) :=
  wpList_plain hgd fun K hK =>
    wp_app T us (hown.alloc _) (hb.alloc (Nat.le_trans hbase hb.size) _) hbase ho hs hx hl (news_alloc w us et) h1 hbytes
      fun v' w' h2 h3 _ _ => hK _ _ (h v' w' h2 h3)
theorem punched_bls {S : Nat → Prop} {v : Value} {xs : List Bool} (w : World) (hx : Bls w S v xs) (hS : ∀ b, S b → b < w.heap.size) (hl : xs.length ≤ 64) :
    Calls Tryd.prog 61 #[v] w fun e w' => ∃ (g : Nat) (ns : List Int), e = .returned (.slice (some ⟨g, 0, none⟩) ns.length ns.length) ∧ ns.length ≤ 8 ∧ w.heap.size ≤ g ∧ Arr w' g 5 (ns.map (Value.int .u8)) ∧ Below w.heap.size w w' := by
  obtain ⟨A, c, rfl, _, _, hr⟩ := hx
  exact punched_any w hr hS hl
theorem conv_own {w : World} {B n : Nat} {v : Value} {ns : List Int} {k : Int} (h : w.ownsRow B 5 1 v (n + 1) (ns.map (Value.int .u8) ++ [Value.int .u8 k])) : ∃ s, (convert 43 9 v).run Tryd.prog w = .ok (.string s) w := by
  obtain ⟨A, c, rfl, _, _⟩ := own_form h
  obtain ⟨g, rfl, _, _, hc⟩ := own_some h (Nat.succ_pos _)
  have hl : (ns ++ [k]).length = n + 1 := by have := h.1; simpa using this
  refine ⟨_, run_convert_bytes_arg w 43 5 Tryd.underlying43 Tryd.underlying5 g 0 (n + 1) c (ns ++ [k]) hl (fun i hi => ?_) 9 Tryd.underlying9⟩
  rw [Nat.zero_add]
  refine hc i _ ?_
  have e : ns.map (Value.int .u8) ++ [Value.int .u8 k] = (ns ++ [k]).map (Value.int .u8) := by simp
  rw [e, List.getElem?_map]
  have hi' : i < (ns ++ [k]).length := by omega
  simp [List.getD, List.getElem?_eq_getElem hi']
theorem head_cells (w : World) (x y z : Value) (o : Obj) : ∀ b, some (⟨w.heap.size, 0, none⟩ : Addr) = some b → ∀ j u, [x, y, z][j]? = some u → ((w.alloc (.cells #[x, y, z] 5 (3, 4))).alloc o).cell? (b.add j) = some u := by
  intro b hb j u hu
  cases hb
  have h : ((w.alloc (.cells #[x, y, z] 5 (3, 4))).alloc o).heap[w.heap.size]? = some (.cells #[x, y, z] 5 (3, 4)) := by
    rw [Below.heap_alloc _ o _ (by simp), heap_alloc_new]
  rw [Addr.add_lit, cell_of_row _ w.heap.size _ #[x, y, z] 5 (3, 4) h, Nat.zero_add]
  simpa using hu
theorem tail_cells (w : World) (x y : Value) (o : Obj) : ∀ j u, [x, y][j]? = some u → ((w.alloc o).alloc (.cells #[x, y] 5)).cell? ((⟨w.heap.size + 1, 0, none⟩ : Addr).add j) = some u := by
  intro j u hu
  have h : ((w.alloc o).alloc (.cells #[x, y] 5)).heap[w.heap.size + 1]? = some (.cells #[x, y] 5 (0, 0)) := by
    have := heap_alloc_new (w.alloc o) (.cells #[x, y] 5)
    rwa [World.size_alloc] at this
  rw [Addr.add_lit, cell_of_row _ (w.heap.size + 1) _ #[x, y] 5 (0, 0) h, Nat.zero_add]
  simpa using hu
set_option maxRecDepth 100000 in
set_option maxHeartbeats 4000000 in
theorem Pack_any {S : Nat → Prop} {A : Option Addr} {c : Nat} {m : Tr} (w : World) (hv : TrR w S (.agg #[.int .i64 (m.w : Int), .int .i64 (m.h : Int), .slice A m.bs.length c]) m) (hS : ∀ b, S b → b < w.heap.size) (hm : OkT m) :
    Calls Tryd.prog 36 #[.agg #[.int .i64 (m.w : Int), .int .i64 (m.h : Int), .slice A m.bs.length c]] w fun e w' => (∃ s, e = .returned (.tuple #[.string s, .int .i64 0])) ∧ Below w.heap.size w w' := by
  have HV := Lib.hid hv
  have HSS := Lib.hid hS
  have HOK := Lib.hid hm
  have b1 := hm.W1
  have b2 := hm.W2
  have b3 := hm.H1
  have b4 := hm.H2
  have hpos : 1 ≤ m.bs.length := by rw [hm.len]; exact Nat.mul_pos hm.W1 hm.H1
  obtain ⟨A1, c1, e1, hc1, hc2, hrow⟩ := hv.form
  simp only [Value.agg.injEq, Array.mk.injEq, List.cons.injEq, Value.slice.injEq, true_and, and_true] at e1
  obtain ⟨rfl, rfl⟩ := e1
  obtain ⟨rb, ro, rfl, hsr, hcell⟩ := hrow.at_ hpos
  have HBL : Hid (∀ (y yw : Nat) (W : World), Below w.heap.size w W → y * m.w = yw → y < m.h → Bls W S (.slice (some ⟨rb, ro + yw, none⟩) m.w (c - yw)) (m.row y)) := fun y yw W hb e hy =>
    row_bls hm e hsr (fun j u hu => (World.cell?_of_block (a := ⟨rb, ro + j, none⟩) (hb.block rb (hS rb hsr))).trans (hcell j u hu)) hy hc1 hc2
  clear hv hS hm hrow hcell
  have HLL := Lib.hid HOK.out.len
  have hlc : m.bs.length ≤ c := hc1
  unfold maxLen at hc2
  have HX := Lib.hid (Arr.new w #[.int .i64 (m.w : Int), .int .i64 (m.h : Int), .slice (some ⟨rb, ro, none⟩) m.bs.length c] 32)
  have HB0 := Lib.hid (al1 w (.cells #[.int .i64 (m.w : Int), .int .i64 (m.h : Int), .slice (some ⟨rb, ro, none⟩) m.bs.length c] 32))
  go_enter Tryd.func36, Tryd.ntmps36
  go_upto_region 1 with fail
  generalize w.alloc (.cells #[.int .i64 (m.w : Int), .int .i64 (m.h : Int), .slice (some ⟨rb, ro, none⟩) m.bs.length c] 32) = w0 at *
  have x0 := HX.out.cell (k := 0) rfl
  have x1 := HX.out.cell (k := 1) rfl
  have x2 := HX.out.cell (k := 2) rfl
  go_wp2_with fail
  refine (tWrong_any w0 (HV.out.same fun b hb => HB0.out.block b (HSS.out b hb)) HOK.out).mono ?_
  rintro e w1 ⟨rfl, hb1⟩
  have HB1 := Lib.hid (HB0.out.trans (hb1.mono HB0.out.size))
  have HX1 := Lib.hid (HX.out.of_eq (hb1.block _ HX.out.lt))
  clear hb1 x0 x1 x2 HX HB0
  have hxl := HX1.out.lt
  have x0 := HX1.out.cell (k := 0) rfl
  have x1 := HX1.out.cell (k := 1) rfl
  have x2 := HX1.out.cell (k := 2) rfl
  have hcv : (convert 43 43 (.slice (some ⟨w1.heap.size, 0, none⟩) 3 3)).run Tryd.prog (w1.alloc (.cells #[.int .u8 74, .int .u8 81, .int .u8 49] 5)) = .ok (.slice (some ⟨w1.heap.size, 0, none⟩) 3 3) (w1.alloc (.cells #[.int .u8 74, .int .u8 81, .int .u8 49] 5 (3, 4))) :=
    Lib.run_convert_bytes_const w1 43 5 #[.int .u8 74, .int .u8 81, .int .u8 49] 3 3 Tryd.underlying43 Tryd.underlying5
  obtain ⟨ib, hib, hib1, hib2, hib3⟩ := info_parts T43b.hi
  have HIB := Lib.hid (And.intro hib (And.intro hib1 (And.intro hib2 hib3)))
  clear hib hib1 hib2 hib3
  go_wp2_with (at_builtin
               refine wpList_append_grows _ rfl _ _ 43 rfl 5 ib (.int .u8 0) 1 1 Tryd.underlying43 HIB.out.1 HIB.out.2.1 HIB.out.2.2.1 HIB.out.2.2.2 rfl (by decide) (some ⟨w1.heap.size, 0, none⟩) 3 3 [.int .u8 74, .int .u8 81, .int .u8 49] rfl (by simp) rfl (head_cells w1 _ _ _ _)
                 ⟨w1.heap.size + 1, 0, none⟩ 2 2 [_, _] rfl rfl (tail_cells w1 _ _ _) (by simp [Value.oneCell']) (by decide) (by decide) (by decide) ?_
               intro v1 w8 hown1 hg1)
  have HB8 : Hid (Below w1.heap.size w1 w8) := (below_al (below_al (Below.refl _ _) (Nat.le_refl _) _) (Nat.le_refl _) _).grown hg1 (by simp; omega) (fun k e => by cases e)
  have HO8 : Hid (OB w8 w1.heap.size v1 [74, 81, 49, (m.w : Int), (m.h : Int)]) := own_base hown1 (by simp; omega)
  clear hown1 hg1 hcv HIB x0 x1 x2
  have HZ : Hid (∀ W, Below w1.heap.size w1 W → Arr W w.heap.size 32 [.int .i64 (m.w : Int), .int .i64 (m.h : Int), .slice (some ⟨rb, ro, none⟩) m.bs.length c] ∧ Below w.heap.size w W) := fun W hb =>
    ⟨HX1.out.of_eq (hb.block _ hxl), HB1.out.trans (hb.mono (Nat.le_of_lt hxl))⟩
  generalize hBB : w1.heap.size = B at *
  go_loopg [5, 6] m.h (fun gg ov yv wr => ∃ (y : Nat) (ns : List Int), y ≤ m.h ∧ gg = m.h - y ∧ yv = .int .i64 (y : Int) ∧ OB wr B ov ns ∧ ns.length ≤ 5 + 9 * y ∧ Below B w1 wr)
  case atStart => exact ⟨0, _, Nat.zero_le _, rfl, rfl, HO8.out, by simp, HB8.out⟩
  case round =>
    clear HO8 HB8
    obtain ⟨y, ns, hy, rfl, rfl, ho, hnl, hb⟩ := hrel
    have HO := Lib.hid ho
    have HB := Lib.hid hb
    obtain ⟨Ao, co, rfl, _, _⟩ := own_form ho
    obtain ⟨hx, hbw⟩ := HZ.out _ hb
    have HBW := Lib.hid hbw
    have x0 := hx.cell (k := 0) rfl
    have x1 := hx.cell (k := 1) rfl
    have x2 := hx.cell (k := 2) rfl
    clear ho hb hx hbw
    rename World => w3
    by_cases hlt : y < m.h
    case neg =>
      obtain rfl : y = m.h := by omega
      have hnl2 : ns.length ≤ 1000 := by omega
      have hB3 : B ≤ w3.heap.size := by have := HB.out.size; omega
      have HSU := Lib.hid (sum_any (cc := co) w3 (Row.of_own HO.out) (by omega))
      go_wp2_with (at_builtin; fail)
      refine HSU.out.mono ?_
      rintro e w4 ⟨⟨ks, rfl⟩, rfl⟩
      go_wp2_with (at_builtin
                   refine app_news T43b [_] HO.out (Below.refl _ _) hB3 rfl rfl rfl rfl rfl (by simp [Value.oneCell']) (by omega) ?_
                   intro v1 w8 hown1 hb1
                   obtain ⟨s8, hcv⟩ := conv_own hown1)
      have HB8 := Lib.hid (HB.out.trans hb1)
      have HFI := Lib.hid ((HZ.out _ HB8.out).2)
      clear hown1 hb1 hcv
      go_ret2
      exact ⟨⟨_, rfl⟩, HFI.out⟩
    obtain ⟨yw, eyw, hm5, hm6, hw1, hw2, hw3, hw4⟩ := row_mul b2 b4 hlt HLL.out
    have hsl := fun wx => run_slice30 rb ro m.bs.length c yw m.w wx hm5 hlc b1
    have HRB := Lib.hid (HBL.out y yw w3 HBW.out eyw hlt)
    go_upto_block 2 with fail
    clear hw1 hw2 hw3 hw4 hsl
    go_cut [8] from 40 to 67 (fun nv wx => ∃ (n k : Nat), 1 ≤ n ∧ y + n ≤ m.h ∧ nv = .int .i64 (n : Int) ∧ wx = w3.drewN k)
    case first =>
      clear x0
      go_wp2_with fail
      go_loopg [8] (m.h + 1 - (y + 1)) (fun gg nv wr => ∃ (n k : Nat), 1 ≤ n ∧ y + n ≤ m.h ∧ gg = m.h + 1 - (y + n) ∧ nv = .int .i64 (n : Int) ∧ wr = w3.drewN k)
      case atStart => exact ⟨1, 0, Nat.le_refl _, hlt, rfl, rfl, rfl⟩
      case round =>
        obtain ⟨n, k, hn1, hn2, rfl, rfl, rfl⟩ := hrel
        obtain ⟨j, hj⟩ : ∃ j, y + n = j := ⟨_, rfl⟩
        have hji : (y : Int) + (n : Int) = (j : Int) := by omega
        by_cases hlj : j < m.h
        case neg =>
          have q : decide ((j : Int) < (m.h : Int)) = false := decide_eq_false (by omega)
          go_wp2_with fail
          go_meet
          exact ⟨n, k, hn1, hn2, rfl, rfl⟩
        have hlj2 := hlj
        obtain ⟨jw, ejw, hm7, hm8, hw1, hw2, hw3, hw4⟩ := row_mul b2 b4 hlj HLL.out
        have hsl := fun wx => run_slice30 rb ro m.bs.length c jw m.w wx hm7 hlc b1
        have HRJ := Lib.hid (HBL.out j jw (w3.drewN k) (below_dN HBW.out) ejw hlj)
        have HEQ := Lib.hid (Equal_any _ _ (w3.drewN k) (HRB.out.same fun _ _ => rfl) HRJ.out)
        have x0 := ((HZ.out _ HB.out).1).cell (k := 0) rfl
        clear ejw
        generalize decide (m.row y = m.row j) = q at *
        go_wp2_with fail
        refine HEQ.out.mono ?_
        rintro e w4 ⟨rfl, k2, rfl⟩
        clear hw1 hw2 hw3 hw4 hsl
        rcases q with _ | _
        · go_wp2_with fail
          go_meet
          exact ⟨n, _, hn1, hn2, rfl, rfl⟩
        · go_wp2_with fail
          go_roundg (m.h + 1 - (y + (n + 1)))
          case measure => omega
          case rel => exact ⟨n + 1, _, by omega, by omega, rfl, by go_num, rfl⟩
    case rest =>
      obtain ⟨n, k, hn1, hn2, rfl, rfl⟩ := hcut
      have HO4 : Hid (OB (w3.drewN k) B (.slice Ao ns.length co) ns) := own_dN HO.out
      have HB4 : Hid (Below B w1 (w3.drewN k)) := below_dN HB.out
      have HR4 : Hid (Bls (w3.drewN k) S (.slice (some ⟨rb, ro + yw, none⟩) m.w (c - yw)) (m.row y)) := HRB.out.same fun _ _ => rfl
      clear HO HB HRB x0 x1 x2 HBW
      generalize w3.drewN k = w4 at *
      have hB4 : B ≤ w4.heap.size := by have := HB4.out.size; omega
      have hnl2 : ns.length ≤ 1000 := by omega
      have hw8 : IntKind.u8.wrap (n : Int) = (n : Int) := IntWalk.u8_in _ (by omega)
      go_wp2_with (at_builtin
                   refine app_news T43b [.int .u8 (n : Int)] HO4.out (Below.refl _ _) hB4 rfl rfl rfl rfl rfl (by simp [Value.oneCell']) (by omega) ?_
                   intro v1 w8 hown1 hb1)
      have HPU := Lib.hid (punched_bls w8 (HR4.out.same fun b hb => hb1.block b (by have := HSS.out b hb; omega)) (fun b hb => by have := HSS.out b hb; have := hb1.size; omega) (by rw [HOK.out.row_len hlt]; exact b2))
      have HO8 := Lib.hid hown1
      have HB8 := Lib.hid (HB4.out.trans hb1)
      clear hown1 hb1
      refine HPU.out.mono ?_
      rintro e w9 ⟨g, ns2, rfl, hn8, hg8, harr, hb9⟩
      obtain ⟨A9, c9, rfl, _, _⟩ := own_form HO8.out
      have HO9 := Lib.hid (own_below HO8.out hb9 (Nat.le_refl _))
      have HNW : Hid (News w9 (.slice (some ⟨g, 0, none⟩) ns2.length ns2.length) ns2.length (ns2.map (Value.int .u8))) := .inr ⟨g, 0, _, rfl, fun j u hu => by rw [Nat.zero_add]; exact harr.cell hu⟩
      have HB9 := Lib.hid (HB8.out.trans (hb9.mono (by have := HB8.out.size; omega)))
      have hB9 : B ≤ w9.heap.size := by have := HB9.out.size; omega
      clear harr hb9 hg8 HPU hw8
      go_wp2_with (at_builtin
                   refine app_elsA T43b (ns2.map (Value.int .u8)) HO9.out (Below.refl _ _) hB9 rfl rfl rfl rfl HNW.out (by simp) (by simp [Value.oneCell']) (by omega) ?_
                   intro v2 w10 hown2 hb2 hg2 ho2)
      have HOA : Hid (OB w10 B v2 (ns ++ [(n : Int)] ++ ns2)) := by
        show World.ownsRow ..
        have := hown2
        simp only [List.length_append, List.length_singleton, List.map_append, List.map_cons, List.map_nil]
        exact this
      have HBA := Lib.hid (HB9.out.trans hb2)
      clear hown2 hb2 hg2 ho2
      go_roundg (m.h - (y + n))
      case measure => omega
      case rel => exact ⟨y + n, _, hn2, rfl, by go_num, HOA.out, by simp only [List.length_append, List.length_singleton]; omega, HBA.out⟩
end Go.Proofs.YtmmakljmikdooaaDoor
/- Chapter 9: the program's raised. -/
namespace Go.Proofs.YtmmakljmikdooaaDoor
open Go.RowKit
set_option linter.unusedVariables false
set_option linter.unusedSimpArgs false

def raisedF (c : Ch) (W H : Nat) : Tr := ⟨W, H, c.cs.map fun x => x != 0⟩
theorem OkC.raised {c : Ch} {W H : Nat} (h : OkC c W H) : OkT (raisedF c W H) := ⟨h.W1, h.W2, h.H1, h.H2, by simp [raisedF, h.len]⟩
/-- what raised has in memory -/
structure RsI (w W : World) (n1 n2 : Nat) (box : List Value) (a b : Int) (u : Value) (xs : List Bool) : Prop where
  e1 : n1 = w.heap.size + 1
  e2 : n2 = w.heap.size + 2
  bx : Arr W w.heap.size 24 box
  r0 : Arr W n1 32 [.int .i64 0, .int .i64 0, .slice none 0 0]
  rm : Arr W n2 32 [.int .i64 a, .int .i64 b, u]
  own : W.ownsRow (w.heap.size + 3) 4 1 u xs.length (xs.map Value.bool)
  below : Below w.heap.size w W
theorem RsI.setU {w W W8 : World} {n1 n2 : Nat} {box : List Value} {a b : Int} {u v : Value} {xs ys : List Bool} (h : RsI w W n1 n2 box a b u xs) (hb : Below (w.heap.size + 3) W W8) (ho : W8.ownsRow (w.heap.size + 3) 4 1 v ys.length (ys.map Value.bool)) : RsI w (W8.setCell ⟨n2, 2, none⟩ v) n1 n2 box a b v ys :=
  have e1 := h.e1
  have e2 := h.e2
  ⟨e1, e2, (h.bx.of_eq (hb.block _ (by omega))).far (by show _ ≠ n2; omega) _, (h.r0.of_eq (hb.block _ (by omega))).far (by show _ ≠ n2; omega) _, (h.rm.of_eq (hb.block _ (by omega))).set 2 v,
   own_kept_lt ho (grownBy_set W8 _ _ _) (by omega), (h.below.trans (hb.mono (by omega))).setCell (by show _ ≤ n2; omega) _⟩
set_option maxRecDepth 100000 in
set_option maxHeartbeats 4000000 in
theorem raised_any {S : Nat → Prop} {v : Value} {c : Ch} {W H : Nat} (w : World) (hv : ChR w S v c) (hS : ∀ b, S b → b < w.heap.size) (hc : OkC c W H) :
    Calls Tryd.prog 18 #[v] w fun e w' => ∃ u, e = .returned u ∧ TrR w' (fun b => w.heap.size ≤ b ∧ b < w'.heap.size) u (raisedF c W H) ∧ Below w.heap.size w w' := by
  obtain ⟨cv, rfl, A, cc, rfl, h1, h2, hr⟩ := hv
  have HR : Hid (∀ i (h : i < c.cs.length) (W' : World), Below w.heap.size w W' → ∃ b o, A = some ⟨b, o, none⟩ ∧ W'.cell? ⟨b, o + i, none⟩ = some (.int .i64 c.cs[i])) := fun i h W' hb => by
    obtain ⟨b, o, e, hs, z⟩ := ints_cell hr h
    exact ⟨b, o, e, (World.cell?_of_block (a := ⟨b, o + i, none⟩) (hb.block b (hS b hs))).trans z⟩
  have hlen := hc.len
  have b1 := hc.W1
  have b2 := hc.W2
  have b3 := hc.H1
  have b4 := hc.H2
  have hll : c.cs.length ≤ 4096 := by have : W * H ≤ 64 * 64 := Nat.mul_le_mul b2 b4; omega
  have HF : Hid (raisedF c W H = ⟨W, H, c.cs.map fun x => x != 0⟩) := rfl
  have e1 := hc.w
  have e2 := hc.h
  clear hr hS hc hlen
  generalize raisedF c W H = R at *
  obtain ⟨g, cw, ch, cs⟩ := c
  dsimp only at *
  subst e1
  subst e2
  unfold maxLen at h2
  have HI0 : Hid (RsI w (((w.alloc (.cells #[.int .i64 g, .int .i64 (W : Int), .int .i64 (H : Int), .slice A cs.length cc] 24)).alloc (.cells #[.int .i64 0, .int .i64 0, .slice none 0 0] 32)).alloc (.cells #[.int .i64 (W : Int), .int .i64 (H : Int), .slice none 0 0] 32)) (w.heap.size + 1) (w.heap.size + 1 + 1)
      [.int .i64 g, .int .i64 (W : Int), .int .i64 (H : Int), .slice A cs.length cc] (W : Int) (H : Int) (.slice none 0 0) []) :=
    ⟨rfl, rfl, ((Arr.new w _ 24).alloc _).alloc _, by simpa using (Arr.new (w.alloc _) _ 32).alloc _, by simpa using Arr.new ((w.alloc _).alloc _) _ 32, World.ownsRow_nil _ _ _ _, below_al (al2 w _ _) (Nat.le_refl _) _⟩
  go_enter Tryd.func18, Tryd.ntmps18
  go_upto_region 2 with fail
  generalize ((w.alloc (.cells #[.int .i64 g, .int .i64 (W : Int), .int .i64 (H : Int), .slice A cs.length cc] 24)).alloc (.cells #[.int .i64 0, .int .i64 0, .slice none 0 0] 32)).alloc (.cells #[.int .i64 (W : Int), .int .i64 (H : Int), .slice none 0 0] 32) = w0 at *
  generalize w.heap.size + 1 = n1 at *
  generalize n1 + 1 = n2 at *
  have x3 := HI0.out.bx.cell (k := 3) rfl
  go_wp2_with fail
  clear x3
  go_loopg [14] cs.length (fun gg ctr wr => ∃ (i : Nat) (u : Value), i ≤ cs.length ∧ gg = cs.length - i ∧ ctr = .int .i64 (i : Int) ∧ RsI w wr n1 n2 [.int .i64 g, .int .i64 (W : Int), .int .i64 (H : Int), .slice A cs.length cc] (W : Int) (H : Int) u ((cs.take i).map fun x => x != 0))
  case atStart => exact ⟨0, _, Nat.zero_le _, rfl, rfl, HI0.out⟩
  case round =>
    clear HI0
    obtain ⟨i, u, hi, rfl, rfl, hr⟩ := hrel
    have HI := Lib.hid hr
    clear hr
    rename World => w1
    have hil : ((cs.take i).map fun x => x != 0).length = i := by rw [List.length_map, List.length_take]; omega
    by_cases hlt : i < cs.length
    case neg =>
      obtain rfl : i = cs.length := by omega
      rw [List.take_length] at HI
      obtain ⟨Au, cu, rfl, _, _⟩ := own_form HI.out.own
      have e1 := HI.out.e1
      have e2 := HI.out.e2
      subst e1
      have y0 := HI.out.rm.cell (k := 0) rfl
      have y1 := HI.out.rm.cell (k := 1) rfl
      have y2 := HI.out.rm.cell (k := 2) rfl
      have r0 := HI.out.r0.cell (k := 0) rfl
      have r1 := HI.out.r0.cell (k := 1) rfl
      have r2 := HI.out.r0.cell (k := 2) rfl
      have f0 := HI.out.r0.free 0
      have f1 := HI.out.r0.free 1
      have f2 := HI.out.r0.free 2
      have hml : (cs.map fun x => x != 0).length = cs.length := by simp
      rw [hml] at HI
      have HQ := Lib.hid (((HI.out.r0.set 0 (.int .i64 (W : Int))).set 1 (.int .i64 (H : Int))).set 2 (.slice Au cs.length cu))
      have HO := Lib.hid (own_kept_lt (own_kept_lt (own_kept_lt HI.out.own (grownBy_set w1 (w.heap.size + 1) 0 (.int .i64 (W : Int))) (by omega)) (grownBy_set _ (w.heap.size + 1) 1 (.int .i64 (H : Int))) (by omega)) (grownBy_set _ (w.heap.size + 1) 2 (.slice Au cs.length cu)) (by omega))
      have HB := Lib.hid (((HI.out.below.setCell (p := ⟨w.heap.size + 1, 0, none⟩) (Nat.le_succ _) (.int .i64 (W : Int))).setCell (p := ⟨w.heap.size + 1, 1, none⟩) (Nat.le_succ _) (.int .i64 (H : Int))).setCell (p := ⟨w.heap.size + 1, 2, none⟩) (Nat.le_succ _) (.slice Au cs.length cu))
      rw [hml] at HO
      clear e2
      go_wp2_with fail
      clear y0 y1 y2 r0 r1 r2 f0 f1 f2 HI
      generalize ((w1.setCell ⟨w.heap.size + 1, 0, none⟩ (.int .i64 (W : Int))).setCell ⟨w.heap.size + 1, 1, none⟩ (.int .i64 (H : Int))).setCell ⟨w.heap.size + 1, 2, none⟩ (.slice Au cs.length cu) = wf at *
      have q0 := HQ.out.cell (k := 0) rfl
      have q1 := HQ.out.cell (k := 1) rfl
      have q2 := HQ.out.cell (k := 2) rfl
      have HTR : Hid (TrR wf (fun b => w.heap.size ≤ b ∧ b < wf.heap.size) (.agg #[.int .i64 (W : Int), .int .i64 (H : Int), .slice Au cs.length cu]) R) := by
        show TrR ..
        rw [HF.out]
        have hbo : Bls wf _ (.slice Au cs.length cu) (cs.map fun x => x != 0) := Bls.of_own HO.out
        exact ⟨_, rfl, hbo.mono fun b h => ⟨by omega, h.2⟩⟩
      refine bodyPost_ret (v := .agg #[.int .i64 (W : Int), .int .i64 (H : Int), .slice Au cs.length cu]) (by simp [results, Tryd.results18, go_sem, q0, q1, q2]) rfl ⟨_, rfl, HTR.out, HB.out⟩
    obtain ⟨b, o, rfl, c0⟩ := HR.out i hlt w1 HI.out.below
    have HO := Lib.hid HI.out.own
    rw [hil] at HO
    obtain ⟨Au, cu, rfl, _, _⟩ := own_form HO.out
    have x3 := HI.out.bx.cell (k := 3) rfl
    have y2 := HI.out.rm.cell (k := 2) rfl
    have HT : Hid ((cs.take (i + 1)).map (fun x => x != 0) = (cs.take i).map (fun x => x != 0) ++ [cs[i] != 0]) := by
      show _ = _
      rw [List.take_succ_eq_append_getElem hlt, List.map_append]; rfl
    generalize cs[i] = x at *
    have hl3 : w.heap.size + 3 ≤ w1.heap.size := by have := HI.out.rm.lt; have := HI.out.e2; omega
    have HE2 := Lib.hid HI.out.e2
    clear hil
    go_wp2_with (at_builtin
                 go_must (refine app_el T30b [.bool (x != 0)] HO.out (Below.refl _ _) hl3 rfl rfl rfl rfl rfl (by simp [Value.oneCell']) (by omega) ?_)
                 intro v1 w8 hown1 hb1 hg1 ho1
                 obtain ⟨A9, c9, rfl, _, _⟩ := own_form hown1
                 have y8 := (HI.out.rm.of_eq (hb1.block n2 (by have := HE2.out; omega))).cell (k := 2) rfl
                 have f8 := (HI.out.rm.of_eq (hb1.block n2 (by have := HE2.out; omega))).free 2)
    have HOW8 : Hid (w8.ownsRow (w.heap.size + 3) 4 1 (.slice A9 (i + 1) c9) ((cs.take (i + 1)).map fun x => x != 0).length (((cs.take (i + 1)).map fun x => x != 0).map Value.bool)) := by
      have e : ((cs.take (i + 1)).map fun x => x != 0).length = i + 1 := by rw [List.length_map, List.length_take]; omega
      show World.ownsRow ..
      rw [e, HT.out, List.map_append]
      exact hown1
    have HB8 := Lib.hid hb1
    clear hown1 hb1 hg1 ho1 y8 f8 x3 y2 c0
    go_roundg (cs.length - (i + 1))
    case measure => omega
    case rel => exact ⟨i + 1, _, by omega, rfl, by go_num, HI.out.setU HB8.out HOW8.out⟩
end Go.Proofs.YtmmakljmikdooaaDoor
