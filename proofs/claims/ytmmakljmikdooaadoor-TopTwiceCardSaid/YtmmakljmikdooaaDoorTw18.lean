/- Texts of the seat, put together: RowWalk, CardWalk1, ReadPlain. -/
import Derived.Test.YtmmakljmikdooaaDoorTw17
import Derived.Test.YtmmakljmikdooaaDoorTwDraftWalk2
/- Chapter 2: the program's reader: row; what is bad. -/
namespace Go.Proofs.YtmmakljmikdooaaDoor
open Go.RowKit
set_option linter.unusedVariables false
set_option linter.unusedSimpArgs false

theorem gb_below {B b : Nat} {w W W' : World} (h : w.grownBy W (some b)) (k : Below B W W') (hB : w.heap.size ≤ B) : w.grownBy W' (some b) :=
  ⟨k.os.trans h.os, k.tape.trans h.tape, k.output.trans h.output, Nat.le_trans h.size k.size, fun i hi hne => (k.block i (by omega)).trans (h.block i hi hne)⟩
theorem gb_set {b k : Nat} {v : Value} {w W : World} (h : w.grownBy W (some b)) : w.grownBy (W.setCell ⟨b, k, none⟩ v) (some b) := grownBy_trans h (grownBy_set W b k v)
theorem gb_refl (w : World) (r : Option Nat) : w.grownBy w r := ⟨rfl, rfl, rfl, Nat.le_refl _, fun _ _ _ => rfl⟩
theorem nextF_of {l m : List UInt8} {p : Nat} (h : l.drop p = m) (hm : m ≠ []) : nextF l p = dec m ∧ p < l.length := by
  have hp : p < l.length := by
    rcases Nat.lt_or_ge p l.length with k | k
    · exact k
    · rw [List.drop_of_length_le k] at h
      exact absurd h.symm hm
  unfold nextF
  rw [if_neg (by omega), h]
  exact ⟨rfl, hp⟩
theorem drop_more {l a m : List UInt8} {p : Nat} (h : l.drop p = a ++ m) : l.drop (p + a.length) = m := by
  rw [← List.drop_drop, h, List.drop_left]
theorem inkB_append (xs ys : List Int) : inkB (xs ++ ys) = inkB xs ++ inkB ys := by unfold inkB; rw [List.flatMap_append]
/-- the places of a line's signs -/
theorem line_at {l rest : List UInt8} {p : Nat} {xs : List Int} (h : l.drop p = lineB xs ++ rest) (i : Nat) : l.drop (p + (inkB (xs.take i)).length) = inkB (xs.drop i) ++ (10 :: rest) := by
  refine drop_more ?_
  have e : inkB (xs.take i) ++ inkB (xs.drop i) = inkB xs := by rw [← inkB_append, List.take_append_drop]
  rw [h, ← List.append_assoc, e]
  unfold lineB
  simp
structure LineAt (l : List UInt8) (p : Nat) (xs : List Int) (ps : Nat → Nat) : Prop where
  start : ps 0 = p
  le : ∀ i, i ≤ xs.length → ps i < l.length
  step : ∀ i, (h : i < xs.length) → ∃ z n : Nat, z < 62 ∧ xs[i] = (z : Int) ∧ nextF l (ps i) = (signF z, n) ∧ ps (i + 1) = ps i + n ∧ 1 ≤ n
  last : nextF l (ps xs.length) = (10, 1)
  fin : ps xs.length + 1 = p + (lineB xs).length
theorem lineAt_of {l rest : List UInt8} {p : Nat} {xs : List Int} (h : l.drop p = lineB xs ++ rest) (hx : ∀ x ∈ xs, 0 ≤ x ∧ x < 62) : LineAt l p xs fun i => p + (inkB (xs.take i)).length where
  start := by simp [inkB]
  le := fun i _ => (nextF_of (line_at h i) (by simp)).2
  step := fun i hi => by
    have hm := hx _ (List.getElem_mem hi)
    have hd := line_at h i
    rw [List.drop_eq_getElem_cons hi] at hd
    have e1 : inkB (xs[i] :: xs.drop (i + 1)) = encB (signF xs[i].toNat) ++ inkB (xs.drop (i + 1)) := by unfold inkB; rw [List.flatMap_cons]
    rw [e1, List.append_assoc] at hd
    refine ⟨xs[i].toNat, (encB (signF xs[i].toNat)).length, by omega, by omega, ?_, ?_, (encB_len _).1⟩
    · rw [(nextF_of hd (by simp)).1, dec_sign (by omega)]
    · show p + (inkB (xs.take (i + 1))).length = _
      rw [List.take_succ_eq_append_getElem hi, inkB_snoc, List.length_append]
      show _ = p + _ + _
      omega
  last := by
    have hd := line_at h xs.length
    rw [List.drop_length] at hd
    have e : inkB [] ++ (10 :: rest) = 10 :: rest := rfl
    rw [e] at hd
    show nextF l (p + (inkB (xs.take xs.length)).length) = _
    rw [(nextF_of hd (by simp)).1, dec_feed]
  fin := by
    show p + (inkB (xs.take xs.length)).length + 1 = _
    rw [List.take_length, lineB, List.length_append, List.length_singleton]
    omega
theorem next_at {l : List UInt8} {p b r n : Nat} {w : World} (ht : Tabs w) (hx : Arr w b 70 [.string ⟨l.toArray⟩, .int .i64 (p : Int)]) (hp : p < l.length) (hl : l.length ≤ 70000) (hn : nextF l p = (r, n)) :
    Calls Tryd.prog 23 #[.pointer (some ⟨b, 0, none⟩)] w fun e w' => e = .returned (.tuple #[.int .i32 (r : Int), .int .i64 (n : Int)]) ∧ Below w.heap.size w w' := by
  have h := next_any l p b w ht hx (Nat.le_of_lt hp) hl
  rw [hn] at h
  exact h
theorem colour_at {z : Nat} (hz : z < 62) (w : World) : Calls Tryd.prog 40 #[.int .i32 ((signF z : Nat) : Int)] w fun e w' => e = .returned (.tuple #[.int .i64 (z : Int), .bool true]) ∧ w' = w := by
  have h := colour_any ((signF z : Nat) : Int) w
  rw [colourF_sign hz] at h
  exact h
theorem w64_one {a : Nat} (h : a + 1 ≤ 100000) : wrap64 ((a : Int) + 1) = ((a + 1 : Nat) : Int) := by
  rw [IntWalk.wrap64_in _ (by omega)]; omega
theorem i64_one {a : Nat} (h : a + 1 ≤ 100000) : IntKind.i64.wrap ((a : Int) + 1) = ((a + 1 : Nat) : Int) := by
  rw [IntWalk.i64_in _ (by omega)]; omega
set_option maxRecDepth 100000 in
set_option maxHeartbeats 4000000 in
theorem row_any (l : List UInt8) (p b : Nat) (xs : List Int) (ps : Nat → Nat) (w : World) (ht : Tabs w) (hx : Arr w b 70 [.string ⟨l.toArray⟩, .int .i64 (p : Int)]) (hb2 : 2 ≤ b) (hl : l.length ≤ 70000)
    (hL : LineAt l p xs ps) (h1 : 1 ≤ xs.length) (h64 : xs.length ≤ 64) :
    Calls Tryd.prog 24 #[.pointer (some ⟨b, 0, none⟩)] w fun e w' => ∃ u, e = .returned (.tuple #[u, .bool true]) ∧ w'.ownsRow w.heap.size 3 1 u xs.length (xs.map (Value.int .i64)) ∧
      w.grownBy w' (some b) ∧ Arr w' b 70 [.string ⟨l.toArray⟩, .int .i64 ((p + (lineB xs).length : Nat) : Int)] := by
  have HX := Lib.hid hx
  have HT := Lib.hid ht
  have HL := Lib.hid hL
  have hbl := hx.lt
  clear hx ht
  have hs0 := hL.start
  clear hL
  go_enter Tryd.func24, Tryd.ntmps24
  go_upto_region 2 with fail
  go_loopg [4] (xs.length + 1) (fun gg v wr => ∃ i : Nat, i ≤ xs.length ∧ gg = xs.length + 1 - i ∧ wr.ownsRow w.heap.size 3 1 v i ((xs.take i).map (Value.int .i64)) ∧ w.grownBy wr (some b) ∧ Arr wr b 70 [.string ⟨l.toArray⟩, .int .i64 ((ps i : Nat) : Int)])
  case atStart => exact ⟨0, Nat.zero_le _, rfl, World.ownsRow_nil _ _ _ _, gb_refl _ _, by rw [hs0]; exact HX.out⟩
  case round =>
    obtain ⟨i, hi, rfl, hown, hg, hx⟩ := hrel
    have HOW := Lib.hid hown
    have HG := Lib.hid hg
    have HX2 := Lib.hid hx
    clear hown hg hx
    rename World => w1
    have hle := HL.out.le i hi
    obtain ⟨A0, c0, rfl, _, _⟩ := own_form HOW.out
    by_cases hlt : i < xs.length
    · obtain ⟨z, n, hz, ez, en, ep, hn⟩ := HL.out.step i hlt
      have HSN := Lib.hid (signF_ne hz)
      have HCO := Lib.hid (fun w => colour_at hz w)
      have HNX := Lib.hid (next_at (HT.out.grown HG.out hb2) HX2.out hle hl en)
      have HEP := Lib.hid ep
      have HEZ : Hid ((xs.take (i + 1)).map (Value.int .i64) = (xs.take i).map (Value.int .i64) ++ [.int .i64 (z : Int)]) := by
        show _ = _
        rw [List.take_succ_eq_append_getElem hlt, List.map_append, ez]; rfl
      have q : (((signF z : Nat) : Int) == 10) = false := by rw [beq_eq_false_iff_ne]; have := HSN.out; omega
      have q2 : ((n : Int) == 0) = false := by rw [beq_eq_false_iff_ne]; omega
      have hpl : ps (i + 1) < l.length := HL.out.le (i + 1) hlt
      rw [ep] at hpl
      have hpw : ps i + n ≤ 100000 := by omega
      have HWS := Lib.hid (And.intro (w64_add hpw) (i64_add hpw))
      clear ep ez en hpw
      generalize hps : ps i = p1 at *
      generalize hsz : signF z = sz at *
      generalize p1 + n = p2 at *
      go_wp2_with fail
      refine HNX.out.mono ?_
      rintro e w2 ⟨rfl, k1⟩
      have HG2 := Lib.hid (gb_below HG.out k1 HG.out.size)
      have HX3 := Lib.hid (HX2.out.of_eq (k1.block b HX2.out.lt))
      have HOW2 := Lib.hid (own_below HOW.out k1 (Nat.le_refl _))
      clear k1
      go_wp2_with fail
      refine (HCO.out w2).mono ?_
      rintro e w3 ⟨rfl, rfl⟩
      go_wp2_with (at_builtin
                   refine app_el T22d [.int .i64 (z : Int)] HOW2.out (Below.refl _ _) HG2.out.size rfl rfl rfl rfl rfl (by simp [Value.oneCell']) (by omega) ?_
                   intro v1 w8 hown1 hb1 hg1 ho1
                   have HX8 := Lib.hid (HX3.out.of_eq (hb1.block b hbl))
                   have x1 := HX8.out.cell (k := 1) rfl
                   have f1 := HX8.out.free 1
                   have hw1 := HWS.out.1
                   have hw2 := HWS.out.2)
      have HOW8 : Hid (w8.ownsRow w.heap.size 3 1 v1 (i + 1) ((xs.take (i + 1)).map (Value.int .i64))) := by
        show World.ownsRow ..
        rw [HEZ.out]
        exact hown1
      have HG8 := Lib.hid (gb_below HG2.out hb1 (Nat.le_refl _))
      clear hown1 hb1 hg1 ho1 x1 f1 hw1 hw2
      go_roundg (xs.length + 1 - (i + 1))
      case measure => omega
      case rel => exact ⟨i + 1, by omega, rfl, own_kept_lt HOW8.out (grownBy_set w8 b 1 _) hbl, gb_set HG8.out, by rw [HEP.out]; exact HX8.out.set 1 _⟩
    · obtain rfl : i = xs.length := by omega
      have hpl : ps xs.length < l.length := HL.out.le _ (Nat.le_refl _)
      have HNX := Lib.hid (next_at (HT.out.grown HG.out hb2) HX2.out hle hl HL.out.last)
      have HF := Lib.hid HL.out.fin
      have hpw : ps xs.length + 1 ≤ 100000 := by omega
      have HWS := Lib.hid (And.intro (w64_one hpw) (i64_one hpw))
      rw [List.take_length] at HOW
      have q : decide ((xs.length : Int) > 0) = true := decide_eq_true (by omega)
      clear hpw
      generalize hps : ps xs.length = p1 at *
      generalize p1 + 1 = p3 at *
      go_wp2_with fail
      refine HNX.out.mono ?_
      rintro e w2 ⟨rfl, k1⟩
      have HG2 := Lib.hid (gb_below HG.out k1 HG.out.size)
      have HX3 := Lib.hid (HX2.out.of_eq (k1.block b HX2.out.lt))
      have HOW2 := Lib.hid (own_below HOW.out k1 (Nat.le_refl _))
      clear k1
      have x1 := HX3.out.cell (k := 1) rfl
      have f1 := HX3.out.free 1
      have hw1 := HWS.out.1
      have hw2 := HWS.out.2
      go_wp2_with fail
      clear hw1 hw2 x1 f1
      go_ret2
      exact ⟨_, rfl, own_kept_lt HOW2.out (grownBy_set w2 b 1 _) hbl, gb_set HG2.out, by rw [← HF.out]; exact HX3.out.set 1 _⟩
end Go.Proofs.YtmmakljmikdooaaDoor
/- Chapter 8: the program's punched, sum. -/
namespace Go.Proofs.YtmmakljmikdooaaDoor
open Go.RowKit
set_option linter.unusedVariables false
set_option linter.unusedSimpArgs false

theorem T43b : SliceT Tryd.prog 43 5 (.int .u8 0) 1 1 := ⟨Tryd.underlying43, by kernel_rfl, rfl, by decide, by decide⟩
theorem sum_any {S : Nat → Prop} {A : Option Addr} {cc : Nat} {ns : List Int} (w : World) (hr : Row w S 1 A ns.length (ns.map (Value.int .u8))) (hl : ns.length ≤ 100000) :
    Calls Tryd.prog 62 #[.slice A ns.length cc] w fun e w' => (∃ k, e = .returned (.int .u8 k)) ∧ w' = w := by
  have HC : Hid (∀ j (h : j < ns.length), ∃ b o, A = some ⟨b, o, none⟩ ∧ w.cell? ⟨b, o + j, none⟩ = some (.int .u8 ns[j])) := fun j h => by
    obtain ⟨b, o, u, e, hs, hu, hc⟩ := hr.cell1 h
    simp [h] at hu
    subst hu
    exact ⟨b, o, e, hc⟩
  clear hr
  go_enter Tryd.func62, Tryd.ntmps62
  go_wp2_with fail
  go_loopg [3, 8] ns.length (fun gg v ctr wr => ∃ (i : Nat) (k : Int), i ≤ ns.length ∧ gg = ns.length - i ∧ ctr = .int .i64 (i : Int) ∧ v = .int .u8 k ∧ wr = w)
  case atStart => exact ⟨0, 0, Nat.zero_le _, rfl, rfl, rfl, rfl⟩
  case round =>
    obtain ⟨i, k, hi, rfl, rfl, rfl, rfl⟩ := hrel
    by_cases hlt : i < ns.length
    · obtain ⟨b, o, rfl, c0⟩ := HC.out i hlt
      go_wp2_with fail
      go_roundg (ns.length - (i + 1))
      case measure => omega
      case rel => exact ⟨i + 1, _, by omega, rfl, by go_num, rfl, rfl⟩
    · obtain rfl : i = ns.length := by omega
      go_wp2_with fail
      go_ret
      exact ⟨⟨_, rfl⟩, rfl⟩
set_option maxRecDepth 100000 in
set_option maxHeartbeats 4000000 in
theorem punched_any {S : Nat → Prop} {A : Option Addr} {cc : Nat} {bs : List Bool} (w : World) (hr : Row w S 1 A bs.length (bs.map Value.bool)) (hS : ∀ b, S b → b < w.heap.size) (hl : bs.length ≤ 64) :
    Calls Tryd.prog 61 #[.slice A bs.length cc] w fun e w' => ∃ (g : Nat) (ns : List Int), e = .returned (.slice (some ⟨g, 0, none⟩) ns.length ns.length) ∧ ns.length ≤ 8 ∧ w.heap.size ≤ g ∧ Arr w' g 5 (ns.map (Value.int .u8)) ∧ Below w.heap.size w w' := by
  have HC : Hid (∀ j (h : j < bs.length) (w' : World), Below w.heap.size w w' → ∃ b o, A = some ⟨b, o, none⟩ ∧ w'.cell? ⟨b, o + j, none⟩ = some (.bool bs[j])) := fun j h w' hb => by
    obtain ⟨b, o, e, hs, hc⟩ := bls_cell hr h
    exact ⟨b, o, e, (World.cell?_of_block (a := ⟨b, o + j, none⟩) (hb.block b (hS b hs))).trans hc⟩
  clear hr hS
  obtain ⟨K, hK⟩ : ∃ K, (bs.length + 7) / 8 = K := ⟨_, rfl⟩
  have hK8 : K ≤ 8 := by omega
  have hK2 : ∀ i, i < bs.length → i / 8 < K := fun i hi => by omega
  have HK2 := Lib.hid hK2
  have hq : ((bs.length : Int) + 7).tdiv 8 = (K : Int) := by rw [Int.tdiv_eq_ediv_of_nonneg (by omega)]; omega
  have mk1 := fun w => run_mk T43b K K (Nat.le_refl _) (by omega) w
  have hmc : madeCells (Value.int .u8 0).cells (K * 1) = madeCells #[.int .u8 0] K := by rw [Nat.mul_one]; rfl
  have HY := Lib.hid (Arr.new w (madeCells #[.int .u8 0] K) 5)
  rw [toList_madeCells_one] at HY
  have HB := Lib.hid (al1 w (.cells (madeCells #[.int .u8 0] K) 5))
  clear hK hK2
  go_enter Tryd.func61, Tryd.ntmps61
  go_upto_region 2 with fail
  generalize w.alloc (.cells (madeCells #[.int .u8 0] K) 5) = w0 at *
  clear mk1 hmc hq
  go_wp2_with fail
  go_loopg [13] bs.length (fun gg ctr wr => ∃ (i : Nat) (ns : List Int), i ≤ bs.length ∧ gg = bs.length - i ∧ ctr = .int .i64 (i : Int) ∧ ns.length = K ∧ Arr wr w.heap.size 5 (ns.map (Value.int .u8)) ∧ Below w.heap.size w wr)
  case atStart => exact ⟨0, List.replicate K 0, Nat.zero_le _, rfl, rfl, by simp, by rw [List.map_replicate]; exact HY.out, HB.out⟩
  case round =>
    clear HY HB
    obtain ⟨i, ns, hi, rfl, rfl, hn, harr, hb⟩ := hrel
    have HA := Lib.hid harr
    have HB := Lib.hid hb
    clear harr hb
    by_cases hlt : i < bs.length
    case neg =>
      obtain rfl : i = bs.length := by omega
      go_wp2_with fail
      go_ret
      exact ⟨w.heap.size, ns, by rw [hn]; rfl, by omega, Nat.le_refl _, HA.out, HB.out⟩
    rename World => w1
    obtain ⟨b, o, rfl, c0⟩ := HC.out i hlt w1 HB.out
    rcases Bool.eq_false_or_eq_true bs[i] with hv | hv
    · rw [hv] at c0
      clear hv
      have hk2 := HK2.out i hlt
      have hqi : ((i : Nat) : Int).tdiv 8 = ((i / 8 : Nat) : Int) := by rw [Int.tdiv_eq_ediv_of_nonneg (by omega)]; omega
      have hri : ((i : Nat) : Int).tmod 8 = ((i % 8 : Nat) : Int) := by rw [Int.tmod_eq_emod_of_nonneg (by omega)]; omega
      have hr8 : i % 8 < 8 := Nat.mod_lt _ (by omega)
      have c1 : w1.cell? ⟨w.heap.size, i / 8, none⟩ = some (.int .u8 (ns[i / 8]'(by omega))) := HA.out.cell (k := i / 8) (by simp [hn, hk2])
      have f1 := HA.out.free (i / 8)
      generalize ns[i / 8]'(by omega) = x at *
      generalize i / 8 = q at *
      generalize i % 8 = r at *
      go_upto_region 6 with fail
      go_region
      have HA2 : Hid (Arr (w1.setCell ⟨w.heap.size, q, none⟩ (.int .u8 (bits BinOp.or IntKind.u8 x (128 / 2 ^ r)))) w.heap.size 5 ((ns.set q (bits BinOp.or IntKind.u8 x (128 / 2 ^ r))).map (Value.int .u8))) := by
        show Arr ..
        rw [List.map_set]
        exact HA.out.set q _
      have HB2 := Lib.hid (HB.out.setCell (p := ⟨w.heap.size, q, none⟩) (Nat.le_refl _) (.int .u8 (bits BinOp.or IntKind.u8 x (128 / 2 ^ r))))
      clear c0 c1 f1
      go_wp2_with fail
      go_roundg (bs.length - (i + 1))
      case measure => omega
      case rel => exact ⟨i + 1, _, by omega, rfl, by go_num, by rw [List.length_set]; exact hn, HA2.out.dN 1, below_dN (n := 1) HB2.out⟩
    · rw [hv] at c0
      clear hv
      go_wp2_with fail
      go_roundg (bs.length - (i + 1))
      case measure => omega
      case rel => exact ⟨i + 1, ns, by omega, rfl, by go_num, hn, HA.out, HB.out⟩
end Go.Proofs.YtmmakljmikdooaaDoor
/- Chapter 2, plain: a printed chart, row by row. -/
namespace Go.Proofs.YtmmakljmikdooaaDoor
set_option linter.unusedVariables false

theorem rows_tail (c : Ch) (W H : Nat) : ∀ n k, k < n → ∃ rest, rowsB c W H n = rowsB c W H k ++ (lineB (rowC c W (H - 1 - k)) ++ rest)
  | 0, k, h => absurd h (Nat.not_lt_zero _)
  | n + 1, k, h => by
    rcases Nat.lt_or_ge k n with hk | hk
    · obtain ⟨rest, e⟩ := rows_tail c W H n k hk
      refine ⟨rest ++ lineB (rowC c W (H - 1 - n)), ?_⟩
      rw [rowsB_snoc, e]
      simp only [List.append_assoc]
    · obtain rfl : k = n := by omega
      refine ⟨[], ?_⟩
      rw [rowsB_snoc, List.append_nil]
/-- the place of row k of the text -/
def posB (c : Ch) (W H k : Nat) : Nat := 4 + (rowsB c W H k).length
theorem posB_next (c : Ch) (W H k : Nat) : posB c W H (k + 1) = posB c W H k + (lineB (rowC c W (H - 1 - k))).length := by
  unfold posB; rw [rowsB_snoc, List.length_append]; omega
theorem posB_end (c : Ch) (W H : Nat) : posB c W H H = (printF c W H).length := by
  unfold posB printF; rw [List.length_append, headB_len]
theorem posB_drop {c : Ch} {W H k : Nat} (h : k < H) : ∃ rest, (printF c W H).drop (posB c W H k) = lineB (rowC c W (H - 1 - k)) ++ rest := by
  obtain ⟨rest, e⟩ := rows_tail c W H H k h
  refine ⟨rest, ?_⟩
  have h4 : (headB c.g ++ rowsB c W H k).length = posB c W H k := by rw [List.length_append, headB_len]; rfl
  rw [← h4]
  unfold printF
  rw [e, ← List.append_assoc (headB c.g)]
  exact List.drop_left
theorem posB_line {c : Ch} {W H k : Nat} (hc : OkC c W H) (h : k < H) : ∃ ps, LineAt (printF c W H) (posB c W H k) (rowC c W (H - 1 - k)) ps := by
  obtain ⟨rest, e⟩ := posB_drop (c := c) (W := W) h
  exact ⟨_, lineAt_of e fun x hx => rowC_mem hc hx⟩
theorem posB_lt {c : Ch} {W H k : Nat} (h : k < H) : posB c W H k < (printF c W H).length := by
  obtain ⟨rest, e⟩ := posB_drop (c := c) (W := W) h
  exact (nextF_of e (by unfold lineB; simp)).2
/-- the cells of the k highest rows -/
def accC (c : Ch) (W H k : Nat) : List Int := c.cs.drop ((H - k) * W)
theorem accC_zero {c : Ch} {W H : Nat} (hc : OkC c W H) : accC c W H 0 = [] := by
  unfold accC
  rw [Nat.sub_zero, Nat.mul_comm, ← hc.len, List.drop_length]
theorem accC_next {c : Ch} {W H k : Nat} (h : k < H) : accC c W H (k + 1) = rowC c W (H - 1 - k) ++ accC c W H k := by
  unfold accC rowC
  have e1 : H - (k + 1) = H - 1 - k := by omega
  have e2 : (H - k) * W = (H - 1 - k) * W + W := by rw [← Nat.succ_mul]; congr 1; omega
  rw [e1, e2, ← List.drop_drop, List.take_append_drop]
theorem accC_len {c : Ch} {W H : Nat} (hc : OkC c W H) : ∀ k, k ≤ H → (accC c W H k).length = k * W
  | 0, _ => by rw [accC_zero hc, Nat.zero_mul]; rfl
  | k + 1, h => by
    rw [accC_next h, List.length_append, hc.row_len (by omega), accC_len hc k (by omega), Nat.succ_mul]
    omega
theorem accC_end (c : Ch) (W H : Nat) : accC c W H H = c.cs := by
  unfold accC
  rw [Nat.sub_self, Nat.zero_mul, List.drop_zero]
theorem read_head (c : Ch) (W H : Nat) : nextF (printF c W H) 0 = (if c.g = 4 then 9633 else 9651, 3) ∧ nextF (printF c W H) 3 = (10, 1) ∧ posB c W H 0 = 4 := by
  have h0 : (printF c W H).drop 0 = headB c.g ++ rowsB c W H H := rfl
  have hne : headB c.g ++ rowsB c W H H ≠ [] := by unfold headB; split <;> simp
  have h3 : (printF c W H).drop 3 = 10 :: rowsB c W H H := by unfold printF headB; split <;> rfl
  refine ⟨?_, ?_, ?_⟩
  · rw [(nextF_of h0 hne).1, dec_head]
  · rw [(nextF_of h3 (by simp)).1, dec_feed]
  · unfold posB rowsB; rfl
end Go.Proofs.YtmmakljmikdooaaDoor
