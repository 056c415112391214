/- Texts of the seat, put together: TruthWalk4, Long. -/
import Derived.Test.YtmmakljmikdooaaDoorTwTruthWalk3
/- Chapter 5: the program's Turned. -/
namespace Go.Proofs.YtmmakljmikdooaaDoor
open Go.RowKit Go.Shelf
set_option linter.unusedVariables false
set_option linter.unusedSimpArgs false
attribute [local go_sem] Oper.semAt_some

/-- rows for columns: the bit at row x, column y -/
def turnB (m : Tr) (i : Nat) : Bool := m.bs.getD (i % m.h * m.w + i / m.h) false
def Tr.turned (m : Tr) : Tr := ⟨m.h, m.w, (List.range (m.h * m.w)).map (turnB m)⟩
/-- what Turned's loops keep -/
structure TurnI (w wL W : World) (g N H Wd : Nat) (bs : List Bool) (pre : List Nat) (y j : Nat) : Prop where
  bits : ∃ bits : List Bool, bits.length = N ∧ Arr W g 4 (bits.map Value.bool) ∧ (∀ y' ∈ pre, ∀ x, x < Wd → bits[x * H + y']? = bs[y' * Wd + x]?) ∧ ∀ x, x < j → bits[x * H + y]? = bs[y * Wd + x]?
  old : ∀ b, b < wL.heap.size → b ≠ g → W.heap[b]? = wL.heap[b]?
  size : wL.heap.size ≤ W.heap.size
  below : Below w.heap.size w W
section
variable {w wL W W' : World} {g N H Wd : Nat} {bs : List Bool} {pre : List Nat} {y j : Nat}
theorem TurnI.grown (h : TurnI w wL W g N H Wd bs pre y j) {row : Option Nat} (hg : W.grownBy W' row) (hr : ∀ r, row = some r → wL.heap.size ≤ r ∧ ∃ o : Obj, W.heap[r]? = some o ∧ o.isCells = false) (hgL : g < wL.heap.size) (hw : w.heap.size ≤ wL.heap.size) : TurnI w wL W' g N H Wd bs pre y j := by
  obtain ⟨bits, h1, h2, h3⟩ := h.bits
  refine ⟨⟨bits, h1, h2.grown hg (fun e => ?_), h3⟩, fun b k1 k2 => (hg.block b (Nat.lt_of_lt_of_le k1 h.size) (fun e => ?_)).trans (h.old b k1 k2), Nat.le_trans h.size hg.size, ?_⟩
  · have := (hr g e).1; omega
  · have := (hr b e.symm).1; omega
  · exact h.below.grown hg h.below.size (fun k e => by have := (hr k e).1; omega)
theorem TurnI.row (h : TurnI w wL W g N H Wd bs pre y Wd) : TurnI w wL W g N H Wd bs (pre ++ [y]) 0 0 := by
  obtain ⟨bits, h1, h2, h3, h4⟩ := h.bits
  refine ⟨⟨bits, h1, h2, fun y' hy x hx => ?_, fun x hx => by omega⟩, h.old, h.size, h.below⟩
  rcases List.mem_append.1 hy with h5 | h5
  · exact h3 y' h5 x hx
  · simp at h5
    subst h5
    exact h4 x hx
theorem TurnI.start (h : TurnI w wL W g N H Wd bs pre 0 0) (y : Nat) : TurnI w wL W g N H Wd bs pre y 0 := by
  obtain ⟨bits, h1, h2, h3, _⟩ := h.bits
  exact ⟨⟨bits, h1, h2, h3, fun x hx => by omega⟩, h.old, h.size, h.below⟩
theorem mul_inj {H x y x' y' : Nat} (hy : y < H) (hy' : y' < H) (h : x * H + y = x' * H + y') : x = x' ∧ y = y' := by
  have e1 : (x * H + y) % H = y := by rw [Nat.mul_comm, Nat.mul_add_mod]; exact Nat.mod_eq_of_lt hy
  have e2 : (x' * H + y') % H = y' := by rw [Nat.mul_comm, Nat.mul_add_mod]; exact Nat.mod_eq_of_lt hy'
  have e3 : y = y' := by rw [← e1, ← e2, h]
  have hH : 0 < H := by omega
  have e4 : x * H = x' * H := by omega
  exact ⟨Nat.eq_of_mul_eq_mul_right hH e4, e3⟩
theorem TurnI.set (h : TurnI w wL W g N H Wd bs pre y j) (hw : w.heap.size ≤ g) (hpre : ∀ y' ∈ pre, y' < H) (hy : y < H) (hj : j < Wd) (hN : N = H * Wd) {v : Bool} (hv : bs[y * Wd + j]? = some v) : TurnI w wL (W.setCell ⟨g, j * H + y, none⟩ (.bool v)) g N H Wd bs pre y (j + 1) := by
  obtain ⟨bits, h1, h2, h3, h4⟩ := h.bits
  have hm : (j + 1) * H ≤ Wd * H := Nat.mul_le_mul_right H hj
  rw [Nat.succ_mul] at hm
  have hlt : j * H + y < bits.length := by rw [h1, hN, Nat.mul_comm H Wd]; omega
  refine ⟨⟨bits.set (j * H + y) v, by rw [List.length_set]; exact h1, ?_, fun y' hy' x hx => ?_, fun x hx => ?_⟩, fun b k1 k2 => (Below.heap_setCell _ _ _ _ (by show b ≠ g; exact k2)).trans (h.old b k1 k2), by simpa [World.setCell] using h.size, h.below.setCell hw _⟩
  · rw [List.map_set]
    exact h2.set _ _
  · rw [List.getElem?_set]
    by_cases e : j * H + y = x * H + y'
    · obtain ⟨rfl, rfl⟩ := mul_inj hy (hpre y' hy') e
      rw [if_pos rfl, if_pos hlt, hv]
    · rw [if_neg e]
      exact h3 y' hy' x hx
  · rw [List.getElem?_set]
    by_cases e : j * H + y = x * H + y
    · obtain ⟨rfl, _⟩ := mul_inj hy hy e
      rw [if_pos rfl, if_pos hlt, hv]
    · rw [if_neg e]
      exact h4 x (by rcases Nat.lt_or_eq_of_le (Nat.le_of_lt_succ hx) with k | k; exact k; subst k; exact absurd rfl e)
end
theorem turn_bits {H W N : Nat} {bs bits : List Bool} (hN : H * W = N) (hH : 1 ≤ H) (hl : bs.length = W * H) (h1 : bits.length = N) (h : ∀ y ∈ List.range H, ∀ x, x < W → bits[x * H + y]? = bs[y * W + x]?) :
    bits = (List.range N).map (turnB ⟨W, H, bs⟩) := by
  apply List.ext_getElem
  · simp [h1]
  · intro i h2 h3
    have hi : i < H * W := by rw [hN, ← h1]; exact h2
    have hy : i % H < H := Nat.mod_lt _ (by omega)
    have hx : i / H < W := Nat.div_lt_of_lt_mul hi
    have e : i / H * H + i % H = i := by rw [Nat.mul_comm]; exact Nat.div_add_mod i H
    have := h (i % H) (List.mem_range.2 hy) (i / H) hx
    rw [e, List.getElem?_eq_getElem h2] at this
    rw [List.getElem_map, List.getElem_range]
    unfold turnB
    dsimp only
    rw [List.getD_eq_getElem?_getD, ← this]
    rfl
set_option maxRecDepth 100000 in
set_option maxHeartbeats 4000000 in
theorem Turned_any {S : Nat → Prop} {v : Value} {m : Tr} (w : World) (hv : TrR w S v m) (hS : ∀ b, S b → b < w.heap.size) (hm : OkT m) :
    Calls Tryd.prog 53 #[v] w fun e w' => ∃ u, e = .returned (.tuple #[u, .int .i64 0]) ∧ TrR w' (fun b => w.heap.size ≤ b ∧ b < w'.heap.size) u m.turned ∧ Below w.heap.size w w' := by
  have HV := Lib.hid hv
  have HSS := Lib.hid hS
  have HOK := Lib.hid hm
  obtain ⟨A, c, rfl, h1, h2, hr⟩ := hv.form
  have hlen := hm.len
  have b1 := hm.W1
  have b2 := hm.W2
  have b3 := hm.H1
  have b4 := hm.H2
  obtain ⟨W, H, bs⟩ := m
  dsimp only at *
  have hpos : 0 < bs.length := by rw [hlen]; exact Nat.mul_pos (by omega) (by omega)
  obtain ⟨rb, ro, rfl, hrb, hrc⟩ := hr.at_ hpos
  have HL := Lib.hid hlen
  have HRC := Lib.hid hrc
  have HRB := Lib.hid hrb
  clear hS hm hv hr hlen hrc hrb hpos
  have HX := Lib.hid ((Arr.new w #[.int .i64 (W : Int), .int .i64 (H : Int), .slice (some ⟨rb, ro, none⟩) bs.length c] 32).alloc (.cells #[.int .i64 0, .int .i64 0, .slice none 0 0] 32))
  have HR := Lib.hid (arr_new2 w (.cells #[.int .i64 (W : Int), .int .i64 (H : Int), .slice (some ⟨rb, ro, none⟩) bs.length c] 32) #[.int .i64 0, .int .i64 0, .slice none 0 0] 32)
  have HB0 := Lib.hid (al2 w (.cells #[.int .i64 (W : Int), .int .i64 (H : Int), .slice (some ⟨rb, ro, none⟩) bs.length c] 32) (.cells #[.int .i64 0, .int .i64 0, .slice none 0 0] 32))
  refine (callsIn_wide (n := 3)).1 ?_
  refine callsIn_of_wp_marks Tryd.func53 rfl trivial ?_ rfl
  simp only [Tryd.ntmps53, List.size_toArray, List.length_cons, List.length_nil, Nat.reduceAdd, Nat.reduceSub, Array.replicate_succ, Array.replicate_zero, List.push_toArray, List.append_toArray, List.nil_append, List.cons_append]
  gi_upto_region 1 with (fail)
  generalize (w.alloc (.cells #[.int .i64 (W : Int), .int .i64 (H : Int), .slice (some ⟨rb, ro, none⟩) bs.length c] 32)).alloc (.cells #[.int .i64 0, .int .i64 0, .slice none 0 0] 32) = w0 at *
  have x0 := HX.out.cell (k := 0) rfl
  have x1 := HX.out.cell (k := 1) rfl
  have x2 := HX.out.cell (k := 2) rfl
  gi_wp2
  refine ⟨trivial, ?_⟩
  refine (callsIn_wide.2 (tWrong_any w0 (HV.out.same fun b hb => HB0.out.block b (HSS.out b hb)) HOK.out)).mono ?_
  rintro e w1 ⟨rfl, hb1⟩
  have HB1 := Lib.hid (HB0.out.trans (hb1.mono HB0.out.size))
  have HX1 := Lib.hid (HX.out.of_eq (hb1.block _ HX.out.lt))
  have HR1 := Lib.hid (HR.out.of_eq (hb1.block _ HR.out.lt))
  clear hb1 x0 x1 x2
  have x0 := HX1.out.cell (k := 0) rfl
  have x1 := HX1.out.cell (k := 1) rfl
  gi_wp2
  refine ⟨trivial, ?_⟩
  refine (callsIn_wide.2 (blank_any H W w1 b3 b4 b1 b2)).mono ?_
  rintro e w2 ⟨g, hg, rfl, hag, hb2⟩
  have HB2 := Lib.hid (HB1.out.trans (hb2.mono HB1.out.size))
  have HX2 := Lib.hid (HX1.out.of_eq (hb2.block _ HX1.out.lt))
  have HR2 := Lib.hid (HR1.out.of_eq (hb2.block _ HR1.out.lt))
  have HG := Lib.hid (show w.heap.size + 1 < g by have := HR1.out.lt; omega)
  have hgl := hag.lt
  clear hb2 x0 x1
  generalize hN : H * W = N at *
  have HO := Lib.hid (Arr.new w2 #[.int .i64 (H : Int), .int .i64 (W : Int), .slice (some ⟨g, 0, none⟩) N N] 32)
  have hd := al1 w2 (.cells #[.int .i64 (H : Int), .int .i64 (W : Int), .slice (some ⟨g, 0, none⟩) N N] 32)
  gi_upto_region 5 with (fail)
  generalize w2.alloc (.cells #[.int .i64 (H : Int), .int .i64 (W : Int), .slice (some ⟨g, 0, none⟩) N N] 32) = w3 at *
  have HB3 := Lib.hid (HB2.out.trans (hd.mono HB2.out.size))
  have HX3 := Lib.hid (HX2.out.of_eq (hd.block _ HX2.out.lt))
  have HR3 := Lib.hid (HR2.out.of_eq (hd.block _ HR2.out.lt))
  have HA3 := Lib.hid (hag.of_eq (hd.block _ hag.lt))
  clear hd hag
  have x0 := HX3.out.cell (k := 0) rfl
  have x1 := HX3.out.cell (k := 1) rfl
  have x2 := HX3.out.cell (k := 2) rfl
  gi_wp2
  refine ⟨trivial, ?_⟩
  refine (callsIn_wide.2 (rows_any W H (some ⟨rb, ro, none⟩) bs.length c w3)).mono ?_
  rintro e w4' ⟨rfl, rfl⟩
  gi_wp2
  have hd := al1 w3 (.cells #[.int .i64 (W : Int), .int .i64 (H : Int), .slice (some ⟨rb, ro, none⟩) bs.length c] 32)
  have HBX := Lib.hid (Arr.new w3 #[.int .i64 (W : Int), .int .i64 (H : Int), .slice (some ⟨rb, ro, none⟩) bs.length c] 32)
  have HZ3 := Lib.hid (show g < w3.heap.size from HA3.out.lt)
  have HO4 := Lib.hid (HO.out.of_eq (hd.block _ HO.out.lt))
  generalize w3.alloc (.cells #[.int .i64 (W : Int), .int .i64 (H : Int), .slice (some ⟨rb, ro, none⟩) bs.length c] 32) = w4 at *
  have HB4 := Lib.hid (HB3.out.trans (hd.mono HB3.out.size))
  have HX4 := Lib.hid (HX3.out.of_eq (hd.block _ HX3.out.lt))
  have HR4 := Lib.hid (HR3.out.of_eq (hd.block _ HR3.out.lt))
  have HA4 := Lib.hid (HA3.out.of_eq (hd.block _ HA3.out.lt))
  have HSZ : Hid (g < w4.heap.size ∧ w.heap.size ≤ w4.heap.size ∧ w3.heap.size < w4.heap.size ∧ w2.heap.size < w4.heap.size) := ⟨HA4.out.lt, HB4.out.size, HBX.out.lt, HO4.out.lt⟩
  clear hd x0 x1 x2
  have HI0 : Hid (TurnI w w4 w4 g N H W bs [] 0 0) := ⟨⟨List.replicate N false, by simp, by rw [List.map_replicate]; exact HA4.out, fun y hy => by simp at hy, fun x hx => by omega⟩, fun _ _ _ => rfl, Nat.le_refl _, HB4.out⟩
  have hcle : bs.length ≤ c := h1
  refine wpIn_rangeFunc_ownH (F := Fence.wide) rfl (by omega) (gf := 81) (lb := #[.pointer (some ⟨w3.heap.size, 0, none⟩)]) rfl trivial (enters_of Tryd.func81 (by kernel_rfl) rfl)
    (rows_stops 2 (by omega) w3.heap.size rb ro c W H bs.length b1 b2 b4 HL.out hcle h2 w4 HSZ.out.2.2.1 HBX.out) KB.trans (KB.put HSZ.out.2.2.1) (Below.refl _ _) (fun _ => rfl)
    (fun pre W' => TurnI w w4 W' g N H W bs (pre.map Subtype.val) 0 0) (fun _ _ _ => False)
    (fun s A B row hs hg hr => hs.grown hg hr HSZ.out.1 HSZ.out.2.1) (fun _ _ _ _ _ hs _ _ => hs) HI0.out
    (fun x a' _ => a' = { tmps := #[.agg #[.int .i64 (W : Int), .int .i64 (H : Int), .slice (some ⟨rb, ro, none⟩) bs.length c], .pointer (some ⟨w.heap.size, 0, none⟩), .pointer (some ⟨w.heap.size + 1, 0, none⟩), .int .i64 0, .int .i64 0, .pointer (some ⟨w2.heap.size, 0, none⟩), .int .i64 (x.1 : Int), rowV rb ro W c x.1, undef, undef,
        .agg #[.int .i64 (W : Int), .int .i64 (H : Int), .slice (some ⟨rb, ro, none⟩) bs.length c], .int .i64 0, .int .i64 0, .bool false, undef, undef, .pointer (some ⟨w.heap.size, 1, none⟩), .int .i64 (H : Int), .pointer (some ⟨w.heap.size, 0, none⟩), .int .i64 (W : Int), .agg #[.int .i64 (H : Int), .int .i64 (W : Int), .slice (some ⟨g, 0, none⟩) N N],
        .agg #[.int .i64 (W : Int), .int .i64 (H : Int), .slice (some ⟨rb, ro, none⟩) bs.length c], .func (.func 81) #[] #[.pointer (some ⟨w3.heap.size, 0, none⟩)], .int .i64 (x.1 : Int), rowV rb ro W c x.1, undef, undef, undef, undef, undef, undef, undef, undef, undef, undef, undef, undef, undef, undef, undef, undef, undef, undef, undef], defers := [] })
    (fun _ _ _ _ _ _ hs _ _ => hs) ?assign ?body ?done ?stop
  case assign =>
    intro l pre x W' K hi hK
    gi_wp2
    exact hK _ _ (KeepsFrom.refl _ _) rfl hi rfl
  case body =>
    rintro l pre ⟨y, hy⟩ a' W' hl ⟨r, hr⟩ hi rfl hlt
    dsimp only
    have HPR : Hid (∀ y' ∈ pre.map Subtype.val, y' < H) := fun y' h => by
      obtain ⟨z, _, rfl⟩ := List.mem_map.1 h
      exact z.2
    have HI := Lib.hid (hi.start y)
    obtain ⟨yw, eyw, hm5, hm6, hw1, hw2, hw3, hw4⟩ := row_mul b2 b4 hy HL.out
    have HYW := Lib.hid eyw
    unfold rowV
    rw [eyw]
    generalize hpv : pre.map Subtype.val = pv at *
    have HPV := Lib.hid hpv
    clear hpv eyw hi hr hlt hw2 hw3 hw4 hw1
    gi_wp2
    gi_loopg [8, 9, 27] W (fun gg _ _ ctr wr => ∃ j : Nat, j ≤ W ∧ gg = W - j ∧ ctr = .int .i64 j ∧ TurnI w w4 wr g N H W bs pv y j ∧ KeepsFrom w4.heap.size W' wr ∧ KB w3.heap.size W' wr)
    case atStart => exact ⟨0, Nat.zero_le _, rfl, rfl, HI.out, KeepsFrom.refl _ _, rfl⟩
    case round =>
      clear HI
      obtain ⟨j, hj, rfl, rfl, hi, hk, hkb⟩ := hrel
      have HI := Lib.hid hi
      have HK := Lib.hid hk
      have HKB := Lib.hid hkb
      by_cases hlj : j < W
      · have hol : ∀ b, b < w4.heap.size → b ≠ g → wr.heap[b]? = w4.heap[b]? := hi.old
        have hx := HX4.out.of_eq (hol _ HX4.out.lt (by have := HG.out; omega))
        have ho := HO4.out.of_eq (hol _ HO4.out.lt (by omega))
        have x1 := hx.cell (k := 1) rfl
        have o2 := ho.cell (k := 2) rfl
        have hrl : yw + j < bs.length := by omega
        have hbv : bs[y * W + j]? = some bs[yw + j] := by rw [HYW.out, List.getElem?_eq_getElem hrl]
        have c0 : wr.cell? ⟨rb, ro + yw + j, none⟩ = some (.bool bs[yw + j]) := by
          have h1 := HRC.out (yw + j) (.bool bs[yw + j]) (by rw [List.getElem?_map, List.getElem?_eq_getElem hrl]; rfl)
          have h2 := HSS.out rb HRB.out
          have h3 : wr.heap[rb]? = w.heap[rb]? := hi.below.block rb h2
          rw [Nat.add_assoc]
          exact (World.cell?_of_block (a := ⟨rb, ro + (yw + j), none⟩) h3).trans h1
        obtain ⟨bits, hbl, hba, _⟩ := hi.bits
        obtain ⟨jh, ejh, hm7, hv1, hv2⟩ : ∃ jh : Nat, j * H = jh ∧ jh + H ≤ N ∧ Hid (wrap64 ((j : Int) * (H : Int)) = (jh : Int)) ∧ N ≤ 4096 := by
          obtain ⟨q, e1, e2, e3, e4, _⟩ := row_mul (y := j) (W := H) (H := W) (L := N) b4 b2 hlj hN.symm
          exact ⟨q, e1, e2, e4, e3⟩
        obtain ⟨bt, hbt⟩ : ∃ bt : Bool, (bits.map Value.bool)[jh + y]? = some (.bool bt) := ⟨bits[jh + y], by rw [List.getElem?_map, List.getElem?_eq_getElem (by omega)]; rfl⟩
        have c1 := hba.cell hbt
        have f1 := hba.free (jh + y)
        have HJ := Lib.hid (hi.set (Nat.le_of_lt (Nat.lt_of_succ_lt HG.out)) HPR.out hy hlj hN.symm hbv)
        rw [ejh] at HJ
        have HKN := Lib.hid (hk.trans ((KeepsOthers.setCell wr ⟨g, jh + y, none⟩ (.bool bs[yw + j])).from w4.heap.size))
        have HKBN : Hid (KB w3.heap.size W' (wr.setCell ⟨g, jh + y, none⟩ (.bool bs[yw + j]))) := KB.trans hkb (Below.heap_setCell _ _ _ _ (by show w3.heap.size ≠ g; have := HZ3.out; omega))
        generalize bs[yw + j] = bv at *
        clear hi hk hkb hol hx ho hbv hbl hba hbt ejh
        have hjl : (j : Int) < (W : Int) := by omega
        have HKK : Hid (wrap64 ((jh : Int) + (y : Int)) = ((jh + y : Nat) : Int)) := by
          show _ = _
          rw [← Int.natCast_add]
          exact IntWalk.wrap64_in _ (by omega)
        have hkN : jh + y < N := by omega
        generalize jh + y = kk at *
        have hkN2 : (kk : Int) < (N : Int) := by omega
        have hv1' := hv1.out
        have hv2' := HKK.out
        clear hv1 HKK hm5 hm6 hm7 hv2
        gi_wp2
        go_roundg (W - (j + 1))
        case measure => omega
        case rel => exact ⟨j + 1, by omega, rfl, by go_num, HJ.out, HKN.out, HKBN.out⟩
      · obtain rfl : j = W := by omega
        gi_wp2
        refine ⟨HK.out, HKB.out, ?_⟩
        show TurnI _ _ _ _ _ _ _ _ (List.map Subtype.val (pre ++ [_])) 0 0
        rw [List.map_append, HPV.out]
        exact HI.out.row
  case done =>
    rintro D ys W' hD ⟨hl, hup⟩ hi hK
    have HI := Lib.hid hi
    have HKD := Lib.hid hK
    have HYS : Hid (ys.map Subtype.val = List.range H) := Eq.trans hup (congrArg List.range hl)
    have hol : ∀ b, b < w4.heap.size → b ≠ g → W'.heap[b]? = w4.heap[b]? := hi.old
    have ho := HO4.out.of_eq (hol _ HO4.out.lt (by omega))
    have hr := HR4.out.of_eq (hol _ HR4.out.lt (by have := HG.out; omega))
    have HRW := Lib.hid hr
    have o0 := ho.cell (k := 0) rfl
    have o1 := ho.cell (k := 1) rfl
    have o2 := ho.cell (k := 2) rfl
    have r0 := hr.cell (k := 0) rfl
    have r1 := hr.cell (k := 1) rfl
    have r2 := hr.cell (k := 2) rfl
    have f0 := hr.free 0
    have f1 := hr.free 1
    have f2 := hr.free 2
    clear hl hup hi hK hol ho hr
    gi_wp2
    obtain ⟨bits, k1, k2, k3, _⟩ := HI.out.bits
    rw [HYS.out] at k3
    have HBI := Lib.hid (turn_bits hN b3 HL.out k1 k3)
    have HQ := Lib.hid (((HRW.out.set 0 (.int .i64 (H : Int))).set 1 (.int .i64 (W : Int))).set 2 (.slice (some ⟨g, 0, none⟩) N N))
    have hA := ((k2.far (p := ⟨w.heap.size + 1, 0, none⟩) (by show g ≠ w.heap.size + 1; have := HG.out; omega) (.int .i64 (H : Int))).far (p := ⟨w.heap.size + 1, 1, none⟩) (by show g ≠ w.heap.size + 1; have := HG.out; omega) (.int .i64 (W : Int))).far (p := ⟨w.heap.size + 1, 2, none⟩) (by show g ≠ w.heap.size + 1; have := HG.out; omega) (.slice (some ⟨g, 0, none⟩) N N)
    have HB9 := Lib.hid (((HI.out.below.setCell (p := ⟨w.heap.size + 1, 0, none⟩) (Nat.le_succ _) (.int .i64 (H : Int))).setCell (p := ⟨w.heap.size + 1, 1, none⟩) (Nat.le_succ _) (.int .i64 (W : Int))).setCell (p := ⟨w.heap.size + 1, 2, none⟩) (Nat.le_succ _) (.slice (some ⟨g, 0, none⟩) N N))
    have HKE : Hid ((((W'.setCell ⟨w.heap.size + 1, 0, none⟩ (.int .i64 (H : Int))).setCell ⟨w.heap.size + 1, 1, none⟩ (.int .i64 (W : Int))).setCell ⟨w.heap.size + 1, 2, none⟩ (.slice (some ⟨g, 0, none⟩) N N)).heap[D]? = some (.deferred (some []))) :=
      (((KeepsOthers.setCell W' _ _).trans (KeepsOthers.setCell _ _ _)).trans (KeepsOthers.setCell _ _ _)).same D _ HKD.out rfl
    refine ⟨by simp, .inl ⟨_, _, rfl, run_takeDeferred HKE.out, ?_⟩⟩
    have hDl : g < D := by have := HSZ.out; omega
    have hgr := grownBy_putObj' (((W'.setCell ⟨w.heap.size + 1, 0, none⟩ (.int .i64 (H : Int))).setCell ⟨w.heap.size + 1, 1, none⟩ (.int .i64 (W : Int))).setCell ⟨w.heap.size + 1, 2, none⟩ (.slice (some ⟨g, 0, none⟩) N N)) D (.deferred none)
    have HQ9 := Lib.hid (HQ.out.grown hgr (by have := HG.out; simp; omega))
    have HA9 := Lib.hid (hA.grown hgr (by simp; omega))
    have HBZ := Lib.hid (HB9.out.grown hgr HB9.out.size (fun k e => by cases e; have := HG.out; omega))
    generalize World.putObj (((W'.setCell ⟨w.heap.size + 1, 0, none⟩ (.int .i64 (H : Int))).setCell ⟨w.heap.size + 1, 1, none⟩ (.int .i64 (W : Int))).setCell ⟨w.heap.size + 1, 2, none⟩ (.slice (some ⟨g, 0, none⟩) N N)) D (.deferred none) = w9 at *
    have q0 := HQ9.out.cell (k := 0) rfl
    have q1 := HQ9.out.cell (k := 1) rfl
    have q2 := HQ9.out.cell (k := 2) rfl
    refine ⟨.tuple #[.agg #[.int .i64 (H : Int), .int .i64 (W : Int), .slice (some ⟨g, 0, none⟩) N N], .int .i64 0], by simp [results, Tryd.results53, go_sem, q0, q1, q2], _, rfl, ⟨_, rfl, some ⟨g, 0, none⟩, N, ?_, ?_, ?_, ?_⟩, HBZ.out⟩
    · show Value.slice _ N N = Value.slice _ ((List.range (H * W)).map _).length N
      rw [List.length_map, List.length_range, hN]
    · show ((List.range (H * W)).map _).length ≤ N
      rw [List.length_map, List.length_range, hN]
      exact Nat.le_refl _
    · have : N ≤ 64 * 64 := by rw [← hN]; exact Nat.mul_le_mul b4 b2
      unfold maxLen
      omega
    · show Row w9 _ 1 _ ((List.range (H * W)).map (turnB ⟨W, H, bs⟩)).length (((List.range (H * W)).map (turnB ⟨W, H, bs⟩)).map Value.bool)
      rw [hN, ← HBI.out]
      refine ⟨by rw [List.length_map, Nat.mul_one], fun _ => ⟨g, 0, rfl, ⟨by have := HG.out; omega, HA9.out.lt⟩, fun i u hu => ?_⟩⟩
      rw [Nat.zero_add]
      exact HA9.out.cell hu
  case stop =>
    rintro D cc pre W' hD _ h _
    exact h.elim
end Go.Proofs.YtmmakljmikdooaaDoor
/- Chapter 5, plain: the longest runs. -/
namespace Go.Proofs.YtmmakljmikdooaaDoor
set_option linter.unusedVariables false

/-- so many places of a row from place fr on, going round: how long the run is that ends here, and the longest one -/
def scanF (row : List Bool) (v : Bool) (fr : Nat) : Nat → Nat × Nat → Nat × Nat
  | 0, st => st
  | k + 1, st => if row.getD ((fr + k) % row.length) false = v then ((scanF row v fr k st).1 + 1, max (scanF row v fr k st).2 ((scanF row v fr k st).1 + 1)) else (0, (scanF row v fr k st).2)
def rowL (v : Bool) (row : List Bool) (most : Nat) : Option Nat := if indexF row (!v) < 0 then none else some (scanF row v (indexF row (!v)).toNat row.length (0, most)).2
def lmF (v : Bool) (rows : List (List Bool)) : Option Nat := rows.foldl (fun acc r => acc.bind (rowL v r)) (some 0)
def longF (m : Tr) (v : Bool) : Int := match lmF v ((List.range m.h).map m.row) with
  | some k => (k : Int)
  | none => 65
theorem lmF_snoc (v : Bool) (rows : List (List Bool)) (r : List Bool) : lmF v (rows ++ [r]) = (lmF v rows).bind (rowL v r) := by
  unfold lmF
  rw [List.foldl_append]; rfl
theorem lm_none (v : Bool) : ∀ (rows : List (List Bool)), rows.foldl (fun acc r => acc.bind (rowL v r)) none = none
  | [] => rfl
  | r :: rows => by rw [List.foldl_cons]; exact lm_none v rows
theorem lmF_none {v : Bool} {a b : List (List Bool)} (h : lmF v a = none) : lmF v (a ++ b) = none := by
  unfold lmF at *
  rw [List.foldl_append, h]
  exact lm_none v b
theorem scan_le (row : List Bool) (v : Bool) (fr : Nat) (st : Nat × Nat) : ∀ k, (scanF row v fr k st).1 ≤ st.1 + k ∧ (scanF row v fr k st).2 ≤ max st.2 (st.1 + k)
  | 0 => ⟨by unfold scanF; omega, by unfold scanF; omega⟩
  | k + 1 => by
    have h := scan_le row v fr st k
    unfold scanF
    split
    · dsimp only
      omega
    · dsimp only
      omega
theorem upR_le {H : Nat} {pre : List (RowN H)} (h : upR pre) : pre.length ≤ H := by
  rcases Nat.lt_or_ge H pre.length with k | k
  · have : H ∈ pre.map Subtype.val := by
      rw [show pre.map Subtype.val = List.range pre.length from h]
      exact List.mem_range.2 k
    obtain ⟨z, _, hz⟩ := List.mem_map.1 this
    have := z.2
    omega
  · exact k
theorem indexF_range {xs : List Bool} {v : Bool} : indexF xs v = -1 ∨ ∃ i : Nat, i < xs.length ∧ indexF xs v = (i : Int) := by
  unfold indexF
  split
  next i h => exact .inr ⟨i, (List.findIdx?_eq_some_iff_getElem.1 h).1, rfl⟩
  next => exact .inl rfl
end Go.Proofs.YtmmakljmikdooaaDoor
