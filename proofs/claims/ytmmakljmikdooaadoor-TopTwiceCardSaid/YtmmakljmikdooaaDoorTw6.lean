/- Texts of the seat, put together: GroupWalk3, GroupWalk4. -/
import Derived.Test.YtmmakljmikdooaaDoorTw5
import Derived.Test.YtmmakljmikdooaaDoorSeq
/- Chapter 3: the program's keeps. -/
namespace Go.Proofs.YtmmakljmikdooaaDoor
open Go.RowKit
set_option linter.unusedVariables false
set_option linter.unusedSimpArgs false

theorem range_cell {w : World} {S : Nat → Prop} {A : Option Addr} {N : Nat} {f : Nat → Int} (h : Row w S 1 A N (((List.range N).map f).map (Value.int .i64))) {k : Nat} (hk : k < N) :
    ∃ b o, A = some ⟨b, o, none⟩ ∧ S b ∧ w.cell? ⟨b, o + k, none⟩ = some (.int .i64 (f k)) := by
  have hl : ((List.range N).map f).length = N := by simp
  obtain ⟨b, o, e, hs, hc⟩ := ints_cell (xs := (List.range N).map f) (by rw [hl]; exact h) (k := k) (by rw [hl]; exact hk)
  refine ⟨b, o, e, hs, ?_⟩
  rw [hc]; simp
set_option maxRecDepth 100000 in
set_option maxHeartbeats 4000000 in
theorem keeps_any {S T : Nat → Prop} {v tv : Value} {g : Int} {n : Nat} {f : Nat → Int} {im : Nat → Nat} (b : Pt) (w : World) (hv : ClR w S v g n f) (ht : Ints w T tv ((List.range (n * n)).map fun p => (im p : Int)))
    (hS : ∀ b, S b → b < w.heap.size) (hT : ∀ b, T b → b < w.heap.size) (hto : ∀ p, p < n * n → im p < n * n) (hb : b.le 1000000) (hn : 1 ≤ n) (hn2 : n ≤ 24) :
    Calls Tryd.prog 48 #[v, tv, b.val] w fun e w' => e = .returned (.bool (decide (keepsF n f im b))) ∧ Below w.heap.size w w' := by
  obtain ⟨cv, rfl, hc⟩ := hv
  obtain ⟨A, ca, rfl, h1, h2, hr⟩ := hc
  obtain ⟨At, ct, rfl, h3, h4, hrt⟩ := ht
  rw [List.length_map, List.length_range] at *
  unfold maxLen at h2 h4
  have HR := Lib.hid hr
  have HT := Lib.hid hrt
  have HS1 := Lib.hid hS
  have HS2 := Lib.hid hT
  have HTO := Lib.hid hto
  have hnn : n * n ≤ 24 * 24 := Nat.mul_le_mul hn2 hn2
  have HDF : Hid (∀ p, p < n * n → f p ≠ f (pl n (addP (pt n (im p)) b)) → decide (keepsF n f im b) = false) := fun p hp hne => decide_eq_false fun k => hne (k p hp)
  have HDT : Hid ((∀ p, p < n * n → f p = f (pl n (addP (pt n (im p)) b))) → decide (keepsF n f im b) = true) := fun k => decide_eq_true k
  clear hr hrt hS hT hto
  obtain ⟨bx, by'⟩ := b
  unfold Pt.le at hb
  dsimp only at hb
  have HB0 := Lib.hid (al2 w (.cells #[.int .i64 g, .int .i64 (n : Int), .slice A (n * n) ca] 92) (.cells #[.int .i64 bx, .int .i64 by'] 78))
  have HX := Lib.hid ((Arr.new w #[.int .i64 g, .int .i64 (n : Int), .slice A (n * n) ca] 92).alloc (.cells #[.int .i64 bx, .int .i64 by'] 78))
  have HY := Lib.hid (arr_new2 w (.cells #[.int .i64 g, .int .i64 (n : Int), .slice A (n * n) ca] 92) #[.int .i64 bx, .int .i64 by'] 78)
  generalize hN : n * n = N at *
  unfold Pt.val
  dsimp only
  go_enter Tryd.func48, Tryd.ntmps48
  go_upto_region 1 with fail
  generalize (w.alloc (.cells #[.int .i64 g, .int .i64 (n : Int), .slice A N ca] 92)).alloc (.cells #[.int .i64 bx, .int .i64 by'] 78) = w0 at *
  go_wp2_with fail
  have hn0 : ¬ (n : Int) = 0 := by omega
  have hn0' : ¬ n = 0 := by omega
  go_loopg [12] N (fun gg ctr wr => ∃ i : Nat, i ≤ N ∧ gg = N - i ∧ ctr = .int .i64 i ∧ Below w0.heap.size w0 wr ∧ ∀ p, p < i → f p = f (pl n (addP (pt n (im p)) ⟨bx, by'⟩)))
  case atStart => exact ⟨0, by omega, rfl, rfl, Below.refl _ _, fun p hp => by omega⟩
  case round =>
    obtain ⟨i, hi, rfl, rfl, hb, hall⟩ := hrel
    have HB := Lib.hid hb
    have HALL := Lib.hid hall
    clear hb hall
    have HBW := Lib.hid (HB0.out.trans (HB.out.mono HB0.out.size))
    by_cases hlt : i < N
    case neg =>
      obtain rfl : i = N := by omega
      have HE := Lib.hid (HDT.out HALL.out)
      go_wp2_with fail
      go_ret
      refine ⟨?_, HBW.out⟩
      rw [HE.out]; rfl
    have HXr := Lib.hid (HX.out.of_eq (HB.out.block _ HX.out.lt))
    have HYr := Lib.hid (HY.out.of_eq (HB.out.block _ HY.out.lt))
    obtain ⟨bt, ot, e, hbt, t0⟩ := range_cell (HT.out.same (w' := wr) fun b hb => HBW.out.block b (HS2.out b hb)) hlt
    cases e
    have hm := HTO.out i hlt
    have HIM : Hid (∀ m, m = im i → pl n (addP (pt n m) ⟨bx, by'⟩) = pl n (addP (pt n (im i)) ⟨bx, by'⟩)) := fun m e => by rw [e]
    have HPL := Lib.hid (pl_lt hn (addP (pt n (im i)) ⟨bx, by'⟩))
    generalize hq : pl n (addP (pt n (im i)) ⟨bx, by'⟩) = q at *
    generalize hmm : im i = m at *
    have HQE : Hid (pl n (addP (pt n (im i)) ⟨bx, by'⟩) = q) := by show _ = _; rw [hmm]; exact hq
    have hql : q < N := by have := HPL.out; omega
    obtain ⟨bc, oc, e, hbc, c0⟩ := range_cell (HR.out.same (w' := wr) fun b hb => HBW.out.block b (HS1.out b hb)) hlt
    cases e
    obtain ⟨bc', oc', e, _, c1⟩ := range_cell (HR.out.same (w' := wr) fun b hb => HBW.out.block b (HS1.out b hb)) hql
    cases e
    have htm : (m : Int).tmod (n : Int) = ((m % n : Nat) : Int) := by rw [Int.tmod_eq_emod_of_nonneg (by omega)]; simp
    have htd : (m : Int).tdiv (n : Int) = ((m / n : Nat) : Int) := by rw [Int.tdiv_eq_ediv_of_nonneg (by omega)]; simp
    have hm1 : m % n < n := Nat.mod_lt _ (by omega)
    have hm2 : m / n ≤ m := Nat.div_le_self _ _
    have HPC : Hid (∀ w, Calls Tryd.prog 32 #[.agg #[.int .i64 g, .int .i64 (n : Int), .slice (some ⟨bc, oc, none⟩) N ca], .agg #[.int .i64 (((m % n : Nat) : Int) + bx), .int .i64 (((m / n : Nat) : Int) + by')]] w fun e w' => e = .returned (.int .i64 (q : Nat)) ∧ Below w.heap.size w w') := fun w => by
      have := place_any g n (some ⟨bc, oc, none⟩) N ca (addP (pt n m) ⟨bx, by'⟩) w hn hn2
      rw [hq] at this
      exact this
    generalize m % n = m1 at *
    generalize m / n = m2 at *
    have hwa : IntKind.i64.wrap ((m1 : Int) + bx) = (m1 : Int) + bx := IntWalk.i64_in _ (by omega)
    have hwc : IntKind.i64.wrap (m2 : Int) = (m2 : Int) := IntWalk.i64_in _ (by omega)
    have hwb : IntKind.i64.wrap ((m2 : Int) + by') = (m2 : Int) + by' := IntWalk.i64_in _ (by omega)
    have HS : Hid (∀ w', Below wr.heap.size wr w' → Below wr.heap.size wr w' ∧ w'.cell? ⟨w.heap.size, 0, none⟩ = some (.int .i64 g) ∧ w'.cell? ⟨w.heap.size, 1, none⟩ = some (.int .i64 (n : Int)) ∧ w'.cell? ⟨w.heap.size, 2, none⟩ = some (.slice (some ⟨bc, oc, none⟩) N ca) ∧ w'.cell? ⟨w.heap.size + 1, 0, none⟩ = some (.int .i64 bx) ∧ w'.cell? ⟨w.heap.size + 1, 1, none⟩ = some (.int .i64 by')) := fun w' hb =>
      ⟨hb, (hb.cell (p := ⟨w.heap.size, 0, none⟩) (by exact HXr.out.lt)).trans (HXr.out.cell (k := 0) rfl), (hb.cell (p := ⟨w.heap.size, 1, none⟩) (by exact HXr.out.lt)).trans (HXr.out.cell (k := 1) rfl), (hb.cell (p := ⟨w.heap.size, 2, none⟩) (by exact HXr.out.lt)).trans (HXr.out.cell (k := 2) rfl),
        (hb.cell (p := ⟨w.heap.size + 1, 0, none⟩) (by exact HYr.out.lt)).trans (HYr.out.cell (k := 0) rfl), (hb.cell (p := ⟨w.heap.size + 1, 1, none⟩) (by exact HYr.out.lt)).trans (HYr.out.cell (k := 1) rfl)⟩
    clear hq hmm
    go_upto_region 4 with fail
    refine wp_region_seq (fun w' => Below wr.heap.size wr w' ∧ w'.cell? ⟨w.heap.size, 0, none⟩ = some (.int .i64 g) ∧ w'.cell? ⟨w.heap.size, 1, none⟩ = some (.int .i64 (n : Int)) ∧ w'.cell? ⟨w.heap.size, 2, none⟩ = some (.slice (some ⟨bc, oc, none⟩) N ca) ∧ w'.cell? ⟨w.heap.size + 1, 0, none⟩ = some (.int .i64 bx) ∧ w'.cell? ⟨w.heap.size + 1, 1, none⟩ = some (.int .i64 by'))
      (by kernel_rfl) (by kernel_rfl) (HS.out _ (below_dN (n := 1) (Below.refl _ _))) ?_
    show Seq _ _ _ _ [_, _, _, _, _, _, _, _, _, _, _, _, _, _, _, _, _, _] _
    repeat (first
      | (refine seq_skip (by rfl) ?_; (try simp only [Act.put, List.setIfInBounds_toArray, List.set_cons_zero, List.set_cons_succ]))
      | (refine seq_val ?_ (by rfl) ?_ ?_
         rotate_left 1
         · intro w6 hS6; go_simp; first | done | with_reducible rfl
         (try simp only [Act.put, List.setIfInBounds_toArray, List.set_cons_zero, List.set_cons_succ]))
      | (refine seq_call ?_ ?_ ?_ (by rfl) ?_ ?_ ?_
         rotate_left 3
         · intro w6 hS6; go_simp; (refine And.intro ?_ ?_ <;> rfl)
         · intro w6 hS6
           (with_reducible refine (HPC.out _).mono ?_)
           rintro e w7 ⟨rfl, hb7⟩
           refine And.intro ?_ (HS.out _ (hS6.1.trans (hb7.mono hS6.1.size)))
           rfl
         (try simp only [Act.put, List.setIfInBounds_toArray, List.set_cons_zero, List.set_cons_succ])))
    refine seq_end ?_
    intro w6 hS6
    obtain ⟨hb6, k0, k1, k2, j0, j1⟩ := hS6
    have HB6 := Lib.hid (HB.out.trans (hb6.mono HB.out.size))
    have d0 := (hb6.cell (p := ⟨bc, oc + i, none⟩) (World.block_lt_of_cell? wr _ c0)).trans c0
    have d1 := (hb6.cell (p := ⟨bc, oc + q, none⟩) (World.block_lt_of_cell? wr _ c1)).trans c1
    have HBW6 := Lib.hid (HB0.out.trans (HB6.out.mono HB0.out.size))
    clear hb6 c0 c1 t0
    have HNX : Hid (f i = f q → ∀ p, p < i + 1 → f p = f (pl n (addP (pt n (im p)) ⟨bx, by'⟩))) := fun e p hp => by
      rcases Nat.lt_or_eq_of_le (Nat.le_of_lt_succ hp) with h | h
      · exact HALL.out p h
      · rw [h, HQE.out]; exact e
    have HBD : Hid (f i ≠ f q → decide (keepsF n f im ⟨bx, by'⟩) = false) := fun e => HDF.out i (by omega) (by rw [HQE.out]; exact e)
    generalize f i = u at *
    generalize f q = v at *
    have iq0 : (q : Int) < (N : Int) := by omega
    have ii0 : (i : Int) < (N : Int) := by omega
    by_cases huv : u = v
    · have dq : (u != v) = false := by simpa using huv
      have HN := Lib.hid (HNX.out huv)
      clear huv HNX HBD
      go_wp2_with (go_quiet (fail))
      go_roundg (N - (i + 1))
      case measure => omega
      case rel => exact ⟨i + 1, by omega, rfl, by go_num, below_dN HB6.out, HN.out⟩
    · have dq : (u != v) = true := by simpa using huv
      have HE := Lib.hid (HBD.out huv)
      clear huv HNX HBD
      go_wp2_with (go_quiet (fail))
      go_ret
      refine ⟨?_, below_dN HBW6.out⟩
      rw [HE.out]; rfl
end Go.Proofs.YtmmakljmikdooaaDoor
/- Chapter 3: the program's image. -/
namespace Go.Proofs.YtmmakljmikdooaaDoor
open Go.RowKit
set_option linter.unusedVariables false
set_option linter.unusedSimpArgs false

theorem T22d : SliceT Tryd.prog 22 3 (.int .i64 0) 1 8 := ⟨Tryd.underlying22, by kernel_rfl, rfl, by decide, by decide⟩
theorem ints_map_snoc (f : Nat → Int) (k : Nat) : ((List.range (k + 1)).map f).map (Value.int .i64) = ((List.range k).map f).map (Value.int .i64) ++ [.int .i64 (f k)] := by
  rw [List.range_succ, List.map_append, List.map_append]; rfl
theorem pt_of {n i y : Nat} (hi : i < n) : pt n (y * n + i) = ⟨(i : Int), (y : Int)⟩ := by
  unfold pt
  have h1 : (y * n + i) % n = i := by rw [Nat.mul_comm, Nat.mul_add_mod]; exact Nat.mod_eq_of_lt hi
  have h2 : (y * n + i) / n = y := by rw [Nat.mul_comm, Nat.mul_add_div (by omega)]; rw [Nat.div_eq_of_lt hi]; omega
  rw [h1, h2]
set_option maxRecDepth 100000 in
set_option maxHeartbeats 4000000 in
theorem image_any {S : Nat → Prop} {v : Value} {g : Int} {n : Nat} {f : Nat → Int} (t : Nat) (fl : Bool) (w : World) (hv : ClR w S v g n f) (hS : ∀ b, S b → b < w.heap.size) (hg : g = 4 ∨ g = 6) (ht : (t : Int) < g) (hn : 1 ≤ n) (hn2 : n ≤ 24) :
    Calls Tryd.prog 47 #[v, .agg #[.int .i64 (t : Int), .bool fl, .int .i64 0, .int .i64 0]] w fun e w' => ∃ u, e = .returned u ∧ w'.ownsRow w.heap.size 3 1 u (n * n) (((List.range (n * n)).map fun p => (imgF g n t fl p : Int)).map (Value.int .i64)) ∧ Below w.heap.size w w' := by
  obtain ⟨cv, rfl, hc⟩ := hv
  obtain ⟨A, ca, rfl, h1, h2, hr⟩ := hc
  rw [List.length_map, List.length_range] at *
  clear hr hS
  unfold maxLen at h2
  have hnn : n * n ≤ 24 * 24 := Nat.mul_le_mul hn2 hn2
  have HB0 := Lib.hid (al2 w (.cells #[.int .i64 g, .int .i64 (n : Int), .slice A (n * n) ca] 92) (.cells #[.int .i64 (t : Int), .bool fl, .int .i64 0, .int .i64 0] 98))
  have HX := Lib.hid ((Arr.new w #[.int .i64 g, .int .i64 (n : Int), .slice A (n * n) ca] 92).alloc (.cells #[.int .i64 (t : Int), .bool fl, .int .i64 0, .int .i64 0] 98))
  have HY := Lib.hid (arr_new2 w (.cells #[.int .i64 g, .int .i64 (n : Int), .slice A (n * n) ca] 92) #[.int .i64 (t : Int), .bool fl, .int .i64 0, .int .i64 0] 98)
  have HAP : Hid (∀ (i y : Nat) w, i < n → y < n → Calls Tryd.prog 31 #[.int .i64 g, .agg #[.int .i64 (t : Int), .bool fl, .int .i64 0, .int .i64 0], .agg #[.int .i64 (i : Int), .int .i64 (y : Int)]] w fun e w' => ∃ q : Pt, e = .returned (.tuple #[.agg #[.int .i64 q.x, .int .i64 q.y], .int .i64 0]) ∧ pl n q = imgF g n t fl (y * n + i) ∧ Below w.heap.size w w') := fun i y w hi hy => by
    have hz : (⟨(i : Int), (y : Int)⟩ : Pt).le 24 := by unfold Pt.le; dsimp only; omega
    have hb := (Bnd.lin t fl (Bnd.of (g := g) hz)).1
    have he : app g ⟨t, fl, ⟨0, 0⟩⟩ ⟨(i : Int), (y : Int)⟩ = lin g t fl ⟨(i : Int), (y : Int)⟩ := by unfold app; dsimp only; rw [Int.add_zero, Int.add_zero]
    refine (Apply_any g hg ⟨t, fl, ⟨0, 0⟩⟩ ⟨(i : Int), (y : Int)⟩ w (by unfold Pt.le; dsimp only; omega) ht (by unfold Pt.le at *; dsimp only at *; omega) (by rw [he]; unfold Pt.le at *; omega)).mono ?_
    rintro e w' ⟨rfl, hb'⟩
    refine ⟨_, rfl, ?_, hb'⟩
    rw [he]
    unfold imgF
    rw [pt_of hi]
  have HPC : Hid (∀ (q : Pt) w, _) := fun q w => place_any g n A (n * n) ca q w hn hn2
  have mk1 := fun w => run_mk0 T22d (n * n) (by omega) w
  have HSN : Hid (∀ k, ((List.range (k + 1)).map fun p => (imgF g n t fl p : Int)).map (Value.int .i64) = ((List.range k).map fun p => (imgF g n t fl p : Int)).map (Value.int .i64) ++ [.int .i64 (imgF g n t fl k : Int)]) := fun k => ints_map_snoc (fun p => (imgF g n t fl p : Int)) k
  have hmm : IntKind.i64.wrap ((n : Int) * (n : Int)) = ((n * n : Nat) : Int) := by rw [← Int.natCast_mul]; exact IntWalk.i64_in _ (by omega)
  generalize hN : n * n = N at *
  generalize imgF g n t fl = F at *
  unfold Pt.val at HPC
  go_enter Tryd.func47, Tryd.ntmps47
  go_upto_region 1 with fail
  have HW00 : Hid (Below w.heap.size w ((w.alloc (.cells #[.int .i64 g, .int .i64 (n : Int), .slice A N ca] 92)).alloc (.cells #[.int .i64 (t : Int), .bool fl, .int .i64 0, .int .i64 0] 98)) ∧ w.heap.size + 2 ≤ ((w.alloc (.cells #[.int .i64 g, .int .i64 (n : Int), .slice A N ca] 92)).alloc (.cells #[.int .i64 (t : Int), .bool fl, .int .i64 0, .int .i64 0] 98)).heap.size) := ⟨HB0.out, by simp⟩
  generalize (w.alloc (.cells #[.int .i64 g, .int .i64 (n : Int), .slice A N ca] 92)).alloc (.cells #[.int .i64 (t : Int), .bool fl, .int .i64 0, .int .i64 0] 98) = w0 at *
  have x0 := HX.out.cell (k := 0) rfl
  have x1 := HX.out.cell (k := 1) rfl
  have x2 := HX.out.cell (k := 2) rfl
  have HO0 := Lib.hid (own_mk0 T22d w0 w0.heap.size N (Nat.le_refl _) (by omega))
  have HB1 := Lib.hid (al1 w0 (.cells (madeCells (Value.int .i64 0).cells (N * 1)) 3))
  go_upto_region 2 with fail
  have hmc : madeCells (Value.int .i64 0).cells (N * 1) = madeCells #[.int .i64 0] N := by rw [Nat.mul_one]; rfl
  rw [hmc] at HO0 HB1
  generalize w0.alloc (.cells (madeCells #[.int .i64 0] N) 3) = w1 at *
  clear x0 x1 x2
  have HX1 := Lib.hid (HX.out.of_eq (HB1.out.block _ HX.out.lt))
  have x1 := HX1.out.cell (k := 1) rfl
  go_wp2_with fail
  clear x1
  go_loopg [5, 18] n (fun gg v ctr wr => ∃ y : Nat, y ≤ n ∧ gg = n - y ∧ ctr = .int .i64 y ∧ wr.ownsRow w0.heap.size 3 1 v (y * n) (((List.range (y * n)).map fun p => (F p : Int)).map (Value.int .i64)) ∧ Below w0.heap.size w0 wr)
  case atStart => exact ⟨0, Nat.zero_le _, rfl, rfl, by rw [Nat.zero_mul]; exact HO0.out, HB1.out⟩
  case round =>
    obtain ⟨y, hy, rfl, rfl, hown, hb⟩ := hrel
    have HOW := Lib.hid hown
    have HBW := Lib.hid hb
    have HXr := Lib.hid (HX.out.of_eq (HBW.out.block _ HX.out.lt))
    have HYr := Lib.hid (HY.out.of_eq (HBW.out.block _ HY.out.lt))
    have x0 := HXr.out.cell (k := 0) rfl
    have x1 := HXr.out.cell (k := 1) rfl
    have x2 := HXr.out.cell (k := 2) rfl
    clear hown hb
    by_cases hlt : y < n
    · go_wp2_with fail
      clear x0 x1 x2
      have hyn : y * n + n = (y + 1) * n := (Nat.succ_mul y n).symm
      have hyn2 : (y + 1) * n ≤ n * n := Nat.mul_le_mul_right n hlt
      have HYN : Hid (y * n + n = (y + 1) * n) := hyn
      generalize hm : y * n = m at *
      go_loopg [5, 23] n (fun gg v ctr w2 => ∃ i : Nat, i ≤ n ∧ gg = n - i ∧ ctr = .int .i64 i ∧ w2.ownsRow w0.heap.size 3 1 v (m + i) (((List.range (m + i)).map fun p => (F p : Int)).map (Value.int .i64)) ∧ Below w0.heap.size w0 w2)
      case atStart => exact ⟨0, Nat.zero_le _, rfl, rfl, HOW.out, HBW.out⟩
      case round =>
        obtain ⟨i, hi, rfl, rfl, hown, hb⟩ := hrel
        clear HOW HBW HXr HYr
        have HOW := Lib.hid hown
        have HBW := Lib.hid hb
        have HXr := Lib.hid (HX.out.of_eq (HBW.out.block _ HX.out.lt))
        have HYr := Lib.hid (HY.out.of_eq (HBW.out.block _ HY.out.lt))
        clear hown hb
        by_cases hli : i < n
        · go_upto_region 8 with fail
          have HCA : Hid (∀ w, _) := fun w => hm ▸ HAP.out i y w hli hlt
          rename World => w2
          have x0 := HXr.out.cell (k := 0) rfl
          have y0 := HYr.out.cell (k := 0) rfl
          have y1 := HYr.out.cell (k := 1) rfl
          have y2 := HYr.out.cell (k := 2) rfl
          have y3 := HYr.out.cell (k := 3) rfl
          go_upto_region 9 with fail
          refine (HCA.out _).mono ?_
          rintro e w5 ⟨q, rfl, hq, hb5⟩
          have HB5 : Hid (Below w0.heap.size w0 w5) := HBW.out.trans (hb5.mono HBW.out.size)
          have HOW5 := Lib.hid (own_below HOW.out hb5 (Nat.le_refl _))
          clear hb5
          go_upto_region 9 with fail
          have HQ0 := Lib.hid (Arr.new w5 #[.int .i64 q.x, .int .i64 q.y] 78)
          have hb6 := al1 w5 (.cells #[.int .i64 q.x, .int .i64 q.y] 78)
          have HB6 := Lib.hid (HB5.out.trans (hb6.mono HB5.out.size))
          have HOW6 := Lib.hid (own_below HOW5.out hb6 (Nat.le_refl _))
          clear hb6
          generalize w5.alloc (.cells #[.int .i64 q.x, .int .i64 q.y] 78) = w6 at *
          have HX6 := Lib.hid (HX.out.of_eq (HB6.out.block _ HX.out.lt))
          clear x0 y0 y1 y2 y3
          have x0 := HX6.out.cell (k := 0) rfl
          have x1 := HX6.out.cell (k := 1) rfl
          have x2 := HX6.out.cell (k := 2) rfl
          have q0 := HQ0.out.cell (k := 0) rfl
          have q1 := HQ0.out.cell (k := 1) rfl
          go_wp2_with fail
          refine (HPC.out _ _).mono ?_
          rintro e w7 ⟨rfl, hb7⟩
          have HB7 := Lib.hid (HB6.out.trans (hb7.mono HB6.out.size))
          have HOW7 := Lib.hid (own_below HOW6.out hb7 (Nat.le_refl _))
          clear hb7 x0 x1 x2 q0 q1
          rw [hq]
          go_wp2_with (at_builtin
                       refine app_el T22d [.int .i64 (F (m + i) : Int)] HOW7.out HB7.out (Nat.le_refl _) rfl rfl rfl rfl rfl (by simp [Value.oneCell']) (by omega) ?_
                       intro v1 w8 hown1 hb1 hg1 ho1)
          have HOW8 := Lib.hid hown1
          rw [← HSN.out] at HOW8
          have HB8 := Lib.hid hb1
          clear hown1 hb1 hg1 ho1
          go_roundg (n - (i + 1))
          case measure => omega
          case rel => exact ⟨i + 1, by omega, rfl, by go_num, HOW8.out, HB8.out⟩
        · obtain rfl : n = i := by omega
          go_wp2_with fail
          go_roundg (n - (y + 1))
          case measure => omega
          case rel => exact ⟨y + 1, by omega, rfl, by go_num, by rw [← HYN.out]; exact HOW.out, HBW.out⟩
    · obtain rfl : y = n := by omega
      go_wp2_with fail
      go_ret
      rw [hN] at HOW
      exact ⟨_, rfl, own_base HOW.out (by have := HW00.out.2; omega), HB0.out.trans (HBW.out.mono HB0.out.size)⟩
end Go.Proofs.YtmmakljmikdooaaDoor
