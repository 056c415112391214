/- Chapter 11: what reads alike is the same. -/
import Derived.Test.YtaacfjeddoekfaaKnitRead
import Derived.Test.YtaacfjeddoekfaaSeq
import Derived.Deep.QuietTactic
import Derived.BigQuiet
import Derived.Deep.LoopGhost
namespace Go.Proofs.Ytaacfjeddoekfaa
open Go.RowKit
set_option linter.unusedVariables false
set_option linter.unusedSimpArgs false

set_option maxHeartbeats 1000000 in
theorem sameNumbers_self {S T : Nat → Prop} {a b : Value} {xs : List Int} (w : World) (ha : Ints w S a xs) (hb : Ints w T b xs) :
    Calls Try.prog 28 #[a, b] w fun e w' => e = .returned (.bool true) ∧ ∃ n, w' = w.drewN n := by
  obtain ⟨A, c, rfl, h1, h2, ra⟩ := ha
  obtain ⟨B, d, rfl, h3, h4, rb⟩ := hb
  unfold maxLen at h2 h4
  have hne : ((xs.length : Int) != (xs.length : Int)) = false := by simp
  go_enter Try.func28, Try.ntmps28
  go_wp2_with fail
  clear hne
  go_loopg [13] xs.length (fun gg ctr wr => ∃ k n : Nat, k ≤ xs.length ∧ gg = xs.length - k ∧ ctr = .int .i64 k ∧ wr = w.drewN n)
  case atStart => exact ⟨0, 0, Nat.zero_le _, rfl, rfl, rfl⟩
  case round =>
    obtain ⟨k, n, hk, rfl, rfl, rfl⟩ := hrel
    by_cases hlt : k < xs.length
    · obtain ⟨b, o, rfl, _, hx⟩ := ints_cell ra hlt
      obtain ⟨b', o', rfl, _, hy⟩ := ints_cell rb hlt
      generalize xs[k] = x at *
      have hne : (x != x) = false := by simp
      go_wp2_with (go_quiet (fail))
      go_roundg (xs.length - (k + 1))
      case measure => omega
      case rel => exact ⟨k + 1, _, by omega, rfl, by go_num, rfl⟩
    · go_wp2_with fail
      go_ret
      exact ⟨rfl, n, rfl⟩
theorem Ints.dN {w : World} {S : Nat → Prop} {v : Value} {xs : List Int} (h : Ints w S v xs) (n : Nat) : Ints (w.drewN n) S v xs := h.same fun _ _ => rfl

set_option maxHeartbeats 1000000 in
theorem sameLists_self {S T : Nat → Prop} {a b : Value} {xs : List (List Int)} (w : World) (ha : ListsRd w S a xs) (hb : ListsRd w T b xs) :
    Calls Try.prog 29 #[a, b] w fun e w' => e = .returned (.bool true) ∧ ∃ n, w' = w.drewN n := by
  obtain ⟨A, c, tv, rfl, h1, h2, ra, ia⟩ := ha
  obtain ⟨B, d, tw, rfl, h3, h4, rb, ib⟩ := hb
  unfold maxLen at h2 h4
  have hne : ((xs.length : Int) != (xs.length : Int)) = false := by simp
  have RA := Lib.hid ra
  have RB := Lib.hid rb
  have IA := Lib.hid ia
  have IB := Lib.hid ib
  clear ra rb ia ib
  go_enter Try.func29, Try.ntmps29
  go_wp2_with fail
  clear hne
  go_loopg [13] xs.length (fun gg ctr wr => ∃ k n : Nat, k ≤ xs.length ∧ gg = xs.length - k ∧ ctr = .int .i64 k ∧ wr = w.drewN n)
  case atStart => exact ⟨0, 0, Nat.zero_le _, rfl, rfl, rfl⟩
  case round =>
    obtain ⟨k, n, hk, rfl, rfl, rfl⟩ := hrel
    by_cases hlt : k < xs.length
    · obtain ⟨b, o, rfl, _, hx⟩ := list_cell RA.out hlt
      obtain ⟨b', o', rfl, _, hy⟩ := list_cell RB.out hlt
      have IAk := Lib.hid (IA.out k hlt)
      have IBk := Lib.hid (IB.out k hlt)
      generalize tv k = u at *
      generalize tw k = u' at *
      go_upto_region 6 with fail
      refine wp_region_seq (fun w' => ∃ n', w' = w.drewN n') (by kernel_rfl) (by kernel_rfl) ⟨n + 1, rfl⟩ ?_
      show Seq _ _ _ _ [_, _, _, _, _, _, _, _, _, _] _
      repeat (first
        | (refine seq_skip (by rfl) ?_; (try simp only [Act.put, List.setIfInBounds_toArray, List.set_cons_zero, List.set_cons_succ]))
        | (refine seq_val ?_ (by rfl) ?_ ?_
           rotate_left 1
           · rintro w5 ⟨k5, rfl⟩; go_simp; first | done | with_reducible rfl
           (try simp only [Act.put, List.setIfInBounds_toArray, List.set_cons_zero, List.set_cons_succ]))
        | (refine seq_call ?_ ?_ ?_ (by rfl) ?_ ?_ ?_
           rotate_left 3
           · rintro w5 ⟨k5, rfl⟩; go_simp; (refine And.intro ?_ ?_ <;> rfl)
           · rintro w5 ⟨k5, rfl⟩
             refine (sameNumbers_self _ (IAk.out.dN k5) (IBk.out.dN k5)).mono ?_
             rintro e w6 ⟨rfl, m6, rfl⟩
             refine And.intro ?_ ⟨_, World.drewN_drewN _ _ _⟩; rfl
           (try simp only [Act.put, List.setIfInBounds_toArray, List.set_cons_zero, List.set_cons_succ])))
      refine seq_end ?_
      rintro w7 ⟨k7, rfl⟩
      go_wp2_with fail
      go_roundg (xs.length - (k + 1))
      case measure => omega
      case rel => exact ⟨k + 1, _, by omega, rfl, by go_num, rfl⟩
    · go_wp2_with fail
      go_ret
      exact ⟨rfl, n, rfl⟩

set_option maxRecDepth 100000 in
set_option maxHeartbeats 4000000 in
theorem Same_self {S T : Nat → Prop} {a b : Value} {k : Kn} (w : World) (ha : KnR w S a k) (hb : KnR w T b k) (hS : ∀ b, S b → b < w.heap.size) (hT : ∀ b, T b → b < w.heap.size) :
    Calls Try.prog 13 #[a, b] w fun e w' => e = .returned (.bool true) ∧ Below w.heap.size w w' := by
  obtain ⟨al, af, ab, ao, rfl, l1, f1, b1, o1⟩ := ha
  obtain ⟨bl, bf, bb, bo, rfl, l2, f2, b2, o2⟩ := hb
  have L1 := Lib.hid l1
  have L2 := Lib.hid l2
  have F1 := Lib.hid f1
  have F2 := Lib.hid f2
  have B1 := Lib.hid b1
  have B2 := Lib.hid b2
  have O1 := Lib.hid o1
  have O2 := Lib.hid o2
  obtain ⟨Al, cl, tl, rfl, p1, p2, r1, i1⟩ := l1
  obtain ⟨Al2, cl2, tl2, rfl, p3, p4, r2, i2⟩ := l2
  have R1 := Lib.hid r1
  have R2 := Lib.hid r2
  have I1 := Lib.hid i1
  have I2 := Lib.hid i2
  obtain ⟨Af, cf, tf, rfl, _⟩ := f1
  obtain ⟨Af2, cf2, tf2, rfl, _⟩ := f2
  obtain ⟨Ab, cb, tb, rfl, _⟩ := b1
  obtain ⟨Ab2, cb2, tb2, rfl, _⟩ := b2
  obtain ⟨Ao, co, rfl, _⟩ := o1
  obtain ⟨Ao2, co2, rfl, _⟩ := o2
  clear r1 r2 i1 i2
  unfold maxLen at p2 p4
  have ST := Lib.hid (And.intro hS hT)
  clear hS hT
  have hne : ((k.loops.length : Int) != (k.loops.length : Int)) = false := by simp
  have hrk : (k.rack != k.rack) = false := by simp
  have HA := Lib.hid ((Arr.new w #[.slice Al k.loops.length cl, .slice Af k.front.length cf, .slice Ab k.back.length cb, .slice Ao k.loose.length co, .int .i64 k.rack] 27).alloc (.cells #[.slice Al2 k.loops.length cl2, .slice Af2 k.front.length cf2, .slice Ab2 k.back.length cb2, .slice Ao2 k.loose.length co2, .int .i64 k.rack] 27))
  have HB := Lib.hid (arr_new2 w (.cells #[.slice Al k.loops.length cl, .slice Af k.front.length cf, .slice Ab k.back.length cb, .slice Ao k.loose.length co, .int .i64 k.rack] 27) #[.slice Al2 k.loops.length cl2, .slice Af2 k.front.length cf2, .slice Ab2 k.back.length cb2, .slice Ao2 k.loose.length co2, .int .i64 k.rack] 27)
  have HW : Hid (Below w.heap.size w ((w.alloc (.cells #[.slice Al k.loops.length cl, .slice Af k.front.length cf, .slice Ab k.back.length cb, .slice Ao k.loose.length co, .int .i64 k.rack] 27)).alloc (.cells #[.slice Al2 k.loops.length cl2, .slice Af2 k.front.length cf2, .slice Ab2 k.back.length cb2, .slice Ao2 k.loose.length co2, .int .i64 k.rack] 27))) := ((Below.refl _ _).alloc (Nat.le_refl _) _).alloc (by simp) _
  go_enter Try.func13, Try.ntmps13
  go_wp2_with fail
  generalize (w.alloc (.cells #[.slice Al k.loops.length cl, .slice Af k.front.length cf, .slice Ab k.back.length cb, .slice Ao k.loose.length co, .int .i64 k.rack] 27)).alloc (.cells #[.slice Al2 k.loops.length cl2, .slice Af2 k.front.length cf2, .slice Ab2 k.back.length cb2, .slice Ao2 k.loose.length co2, .int .i64 k.rack] 27) = w2 at *
  have HS1 : Hid (∀ n, Same S w (w2.drewN n)) := fun n b hb => HW.out.block b (ST.out.1 b hb)
  have HSa : Hid (Same S w w2) := fun b hb => HW.out.block b (ST.out.1 b hb)
  have HSb : Hid (Same T w w2) := fun b hb => HW.out.block b (ST.out.2 b hb)
  have HS2 : Hid (∀ n, Same T w (w2.drewN n)) := fun n b hb => HW.out.block b (ST.out.2 b hb)
  have a0 := HA.out.cell (k := 0) rfl
  have a1 := HA.out.cell (k := 1) rfl
  have a2 := HA.out.cell (k := 2) rfl
  have a3 := HA.out.cell (k := 3) rfl
  have a4 := HA.out.cell (k := 4) rfl
  have c0 := HB.out.cell (k := 0) rfl
  have c1 := HB.out.cell (k := 1) rfl
  have c2 := HB.out.cell (k := 2) rfl
  have c3 := HB.out.cell (k := 3) rfl
  have c4 := HB.out.cell (k := 4) rfl
  refine (sameNumbers_self _ (O1.out.same (HS1.out 0)) (O2.out.same (HS2.out 0))).mono ?_
  rintro e w3 ⟨rfl, n3, rfl⟩
  go_wp2_with fail
  refine (sameLists_self _ (F1.out.same (HS1.out n3)) (F2.out.same (HS2.out n3))).mono ?_
  rintro e w4 ⟨rfl, n4, rfl⟩
  go_wp2_with fail
  refine (sameLists_self _ (B1.out.same (HS1.out (n3 + n4))) (B2.out.same (HS2.out (n3 + n4)))).mono ?_
  rintro e w5 ⟨rfl, n5, rfl⟩
  go_wp2_with fail
  go_loopg [47] k.loops.length (fun gg ctr wr => ∃ i n : Nat, i ≤ k.loops.length ∧ gg = k.loops.length - i ∧ ctr = .int .i64 i ∧ wr = w2.drewN n)
  case atStart => exact ⟨0, _, by omega, rfl, rfl, rfl⟩
  case round =>
    obtain ⟨i, n, hi, rfl, rfl, rfl⟩ := hrel
    by_cases hlt : i < k.loops.length
    case neg =>
      go_wp2_with fail
      go_ret
      exact ⟨rfl, below_dN HW.out⟩
    obtain ⟨b, o, e, _, x0, x1⟩ := loop_cells (R1.out.same HSa.out) hlt
    cases e
    obtain ⟨b', o', e, _, y0, y1⟩ := loop_cells (R2.out.same HSb.out) hlt
    cases e
    have IA := Lib.hid ((I1.out i hlt).same HSa.out)
    have IB := Lib.hid ((I2.out i hlt).same HSb.out)
    generalize (k.loops.getD i noLop).car = car at *
    generalize (k.loops.getD i noLop).thr = thr at *
    generalize tl i = u at *
    generalize tl2 i = u' at *
    have hcc : (car != car) = false := by simp
    go_upto_region 6 with fail
    refine wp_region_seq (fun w' => ∃ n', w' = w2.drewN n') (by kernel_rfl) (by kernel_rfl) ⟨n + 1, rfl⟩ ?_
    show Seq _ _ _ _ [_, _, _, _, _, _, _, _, _, _, _, _, _, _, _, _, _, _, _, _, _, _, _, _, _, _, _, _, _] _
    repeat (first
      | (refine seq_skip (by rfl) ?_; (try simp only [Act.put, List.setIfInBounds_toArray, List.set_cons_zero, List.set_cons_succ]))
      | (refine seq_val ?_ (by rfl) ?_ ?_
         rotate_left 1
         · rintro w5 ⟨k5, rfl⟩; go_simp; first | done | with_reducible rfl
         (try simp only [Act.put, List.setIfInBounds_toArray, List.set_cons_zero, List.set_cons_succ]))
      | (refine seq_call ?_ ?_ ?_ (by rfl) ?_ ?_ ?_
         rotate_left 3
         · rintro w5 ⟨k5, rfl⟩; go_simp; (refine And.intro ?_ ?_ <;> rfl)
         · rintro w5 ⟨k5, rfl⟩
           refine (sameNumbers_self _ (IA.out.dN k5) (IB.out.dN k5)).mono ?_
           rintro e w6 ⟨rfl, m6, rfl⟩
           refine And.intro ?_ ⟨_, World.drewN_drewN _ _ _⟩; rfl
         (try simp only [Act.put, List.setIfInBounds_toArray, List.set_cons_zero, List.set_cons_succ])))
    refine seq_end ?_
    rintro w7 ⟨k7, rfl⟩
    go_wp2_with fail
    go_roundg (k.loops.length - (i + 1))
    case measure => omega
    case rel => exact ⟨i + 1, _, by omega, rfl, by go_num, rfl⟩
end Go.Proofs.Ytaacfjeddoekfaa
