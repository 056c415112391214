/- Texts of the seat, put together: KindWalk8, KindWalk9. -/
import Derived.Test.YtmmakljmikdooaaDoorTwKindWalk7
/- Chapter 4: the program's Kind. -/
namespace Go.Proofs.YtmmakljmikdooaaDoor
open Go.RowKit Go.Maps
set_option linter.unusedVariables false
set_option linter.unusedSimpArgs false

def pickI (b : Bool) (x y : Int) : Int := if b = true then x else y
theorem pick_any (b : Bool) (x y : Int) (w : World) : Calls Tryd.prog 27 #[.bool b, .int .i64 x, .int .i64 y] w fun e w' => e = .returned (.int .i64 (pickI b x y)) ∧ w = w' := by
  rcases b with _ | _
  · go_enter Tryd.func27, Tryd.ntmps27
    go_wp2_with fail
    go_ret
    exact ⟨rfl, rfl⟩
  · go_enter Tryd.func27, Tryd.ntmps27
    go_wp2_with fail
    go_ret
    exact ⟨rfl, rfl⟩
def allW (l : List (Nat × (Bool × Bool))) (p : Bool × Bool) : Bool := l.all fun e => e.2 == p
def mirW (l : List (Nat × (Bool × Bool))) : Bool := l.all fun e => e.2.1
def kindF (g : Int) (s u : Pt) (T : Nat) (l : List (Nat × (Bool × Bool))) : Int :=
  if T = 1 then pickI (l.length == 0) 1 (pickI (allW l (true, false)) 3 (pickI (allW l (false, true)) 4 5))
  else if T = 2 then pickI (l.length == 0) 2 (pickI (allW l (true, false)) 6 (pickI (allW l (false, true)) 8 (pickI (allW l (true, true)) 9 7)))
  else if T = 3 then pickI (l.length == 0) 13 (pickI (alongAll g s u l) 15 14)
  else if T = 4 then pickI (l.length == 0) 10 (pickI (mirW l) 11 12)
  else pickI (l.length == 0) 16 17
theorem pickI_in {b : Bool} {x y : Int} (hx : 1 ≤ x ∧ x ≤ 17) (hy : 1 ≤ y ∧ y ≤ 17) : 1 ≤ pickI b x y ∧ pickI b x y ≤ 17 := by
  unfold pickI; split
  · exact hx
  · exact hy
theorem kindF_in (g : Int) (s u : Pt) (T : Nat) (l : List (Nat × (Bool × Bool))) : 1 ≤ kindF g s u T l ∧ kindF g s u T l ≤ 17 := by
  have c : ∀ k : Int, (decide (1 ≤ k ∧ k ≤ 17)) = true → 1 ≤ k ∧ k ≤ 17 := fun k h => of_decide_eq_true h
  unfold kindF
  repeat' split
  all_goals repeat' (first | exact c _ rfl | refine pickI_in ?_ ?_)
theorem waysF_mem {g : Int} {s u : Pt} : ∀ (L : List Mv) (acc : List (Nat × (Bool × Bool))), ∀ e ∈ L.foldl (stepW g s u) acc, e ∈ acc ∨ ∃ m ∈ L, m.t = e.1
  | [], acc, e, he => .inl he
  | m :: L, acc, e, he => by
    rw [List.foldl_cons] at he
    rcases waysF_mem L _ e he with h | ⟨m', hm, h⟩
    · unfold stepW at h
      split at h
      · exact .inl h
      · rcases List.mem_append.1 h with h | h
        · exact .inl h
        · simp at h
          exact .inr ⟨m, by simp, by rw [h]⟩
    · exact .inr ⟨m', by simp [hm], h⟩
theorem ways_t {c : Ch} {W H : Nat} {s u : Pt} (hg : c.g = 4 ∨ c.g = 6) : ∀ e ∈ waysF c.g s u (movesC c W H), (e.1 : Int) < c.g := fun e he => by
  rcases waysF_mem _ _ e he with h | ⟨m, hm, h⟩
  · simp at h
  · have := (allL_mem hm).1
    omega
set_option maxRecDepth 100000 in
set_option maxHeartbeats 4000000 in
theorem Kind_any {S : Nat → Prop} {v : Value} {c : Ch} {W H : Nat} (w : World) (hv : ChR w S v c) (hS : ∀ b, S b → b < w.heap.size) (hc : OkC c W H)
    (HW : Hid (∀ X x Y, FinP (stepC c W H) X x Y → ∀ m ∈ movesC c W H, m.f = true → LineOk c.g ⟨X, 0⟩ ⟨x, Y⟩ m.t)) :
    Calls Tryd.prog 14 #[v] w fun e w' => Below w.heap.size w w' ∧ ((24 < tor W H ∧ e = .returned (.tuple #[.int .i64 0, .int .i64 4])) ∨
      (tor W H ≤ 24 ∧ ∃ X x Y, FinP (stepC c W H) X x Y ∧ e = .returned (.tuple #[.int .i64 (kindF c.g ⟨X, 0⟩ ⟨x, Y⟩ (turnsF (movesC c W H)).length (waysF c.g ⟨X, 0⟩ ⟨x, Y⟩ (movesC c W H))), .int .i64 0]))) := by
  have HV := Lib.hid hv
  have HSS := Lib.hid hS
  have HOK := Lib.hid hc
  obtain ⟨A, k, rfl⟩ := hv.form
  clear hS hc hv
  have HX := Lib.hid (Arr.new w #[.int .i64 c.g, .int .i64 c.w, .int .i64 c.h, .slice A c.cs.length k] 24)
  have HB0 := Lib.hid (al1 w (.cells #[.int .i64 c.g, .int .i64 c.w, .int .i64 c.h, .slice A c.cs.length k] 24))
  go_enter Tryd.func14, Tryd.ntmps14
  go_upto_region 1 with fail
  generalize w.alloc (.cells #[.int .i64 c.g, .int .i64 c.w, .int .i64 c.h, .slice A c.cs.length k] 24) = w0 at *
  have x0 := HX.out.cell (k := 0) rfl
  have x1 := HX.out.cell (k := 1) rfl
  have x2 := HX.out.cell (k := 2) rfl
  have x3 := HX.out.cell (k := 3) rfl
  go_wp2_with fail
  refine (look_any w0 (HV.out.same fun b hb => HB0.out.block b (HSS.out b hb)) (fun b hb => Nat.lt_of_lt_of_le (HSS.out b hb) HB0.out.size) HOK.out HW).mono ?_
  rintro e w1 ⟨hb1, (⟨hT, rfl⟩ | ⟨hT, X, x, Y, b, n, D, hfin, hX24, hY24, rfl, hbw, hown, hml⟩)⟩
  · have HB1 := Lib.hid (HB0.out.trans (hb1.mono HB0.out.size))
    have HB2 := Lib.hid (below_al HB1.out (Nat.le_refl _) (.cells #[.int .i64 0, .map none, .int .i64 0, .int .i64 0, .int .i64 0, .int .i64 0] 82))
    clear hb1 x0 x1 x2 x3
    go_wp2_with fail
    go_ret2
    exact ⟨HB2.out, .inl ⟨hT, rfl⟩⟩
  · have HB1 := Lib.hid (HB0.out.trans (hb1.mono HB0.out.size))
    have HX1 := Lib.hid (HX.out.of_eq (hb1.block _ HX.out.lt))
    have HFIN := Lib.hid hfin
    have HML := Lib.hid hml
    have HWT := Lib.hid (ways_t (s := ⟨X, 0⟩) (u := ⟨x, Y⟩) (c := c) (W := W) (H := H) HOK.out.g)
    obtain ⟨R, hR⟩ : ∃ R, kindF c.g ⟨X, 0⟩ ⟨x, Y⟩ (turnsF (movesC c W H)).length (waysF c.g ⟨X, 0⟩ ⟨x, Y⟩ (movesC c W H)) = R := ⟨_, rfl⟩
    have HRR := Lib.hid hR
    generalize hl : waysF c.g ⟨X, 0⟩ ⟨x, Y⟩ (movesC c W H) = l at *
    generalize hTT : (turnsF (movesC c W H)).length = T at *
    have HLL := Lib.hid hl
    have HTT := Lib.hid hTT
    clear hb1 x0 x1 x2 x3 hfin hml hR hl hTT
    have HMO := Lib.hid (hown.alloc (.cells #[.int .i64 (T : Int), .map (some b), .int .i64 X, .int .i64 0, .int .i64 x, .int .i64 Y] 82))
    have HSI := Lib.hid (Arr.new w1 #[.int .i64 (T : Int), .map (some b), .int .i64 X, .int .i64 0, .int .i64 x, .int .i64 Y] 82)
    have HB2 := Lib.hid (al1 w1 (.cells #[.int .i64 (T : Int), .map (some b), .int .i64 X, .int .i64 0, .int .i64 x, .int .i64 Y] 82))
    clear hown
    unfold sightV
    go_upto_region 4 with fail
    generalize w1.alloc (.cells #[.int .i64 (T : Int), .map (some b), .int .i64 X, .int .i64 0, .int .i64 x, .int .i64 Y] 82) = w2 at *
    have hsi := HSI.out
    have s0 := hsi.cell (k := 0) rfl
    have s1 := hsi.cell (k := 1) rfl
    have s2 := hsi.cell (k := 2) rfl
    have s3 := hsi.cell (k := 3) rfl
    have s4 := hsi.cell (k := 4) rfl
    have s5 := hsi.cell (k := 5) rfl
    have hlo := hsi.lt
    have HS : Hid (∀ w', Below w2.heap.size w2 w' → Below w2.heap.size w2 w' ∧ w'.ownsMap Tryd.prog 3 wayElem b n D ∧ w'.cell? ⟨w1.heap.size, 0, none⟩ = some (.int .i64 (T : Int)) ∧ w'.cell? ⟨w1.heap.size, 1, none⟩ = some (.map (some b)) ∧ w'.cell? ⟨w1.heap.size, 2, none⟩ = some (.int .i64 X) ∧ w'.cell? ⟨w1.heap.size, 3, none⟩ = some (.int .i64 0) ∧ w'.cell? ⟨w1.heap.size, 4, none⟩ = some (.int .i64 x) ∧ w'.cell? ⟨w1.heap.size, 5, none⟩ = some (.int .i64 Y)) := fun w' hb =>
      ⟨hb, HMO.out.kept (grown_none hb) (by simp), (hb.cell (p := ⟨w1.heap.size, 0, none⟩) (by exact hlo)).trans s0, (hb.cell (p := ⟨w1.heap.size, 1, none⟩) (by exact hlo)).trans s1, (hb.cell (p := ⟨w1.heap.size, 2, none⟩) (by exact hlo)).trans s2, (hb.cell (p := ⟨w1.heap.size, 3, none⟩) (by exact hlo)).trans s3, (hb.cell (p := ⟨w1.heap.size, 4, none⟩) (by exact hlo)).trans s4, (hb.cell (p := ⟨w1.heap.size, 5, none⟩) (by exact hlo)).trans s5⟩
    have HS0 := Lib.hid (HS.out _ (below_dN (n := 1) (Below.refl _ _)))
    clear hsi s0 s1 s2 s3 s4 s5 hlo
    have HAL : Hid (∀ (p : Bool × Bool) (w : World), w.ownsMap Tryd.prog 3 wayElem b n D → Calls Tryd.prog 26 #[.agg #[.int .i64 (T : Int), .map (some b), .int .i64 X, .int .i64 0, .int .i64 x, .int .i64 Y], .agg #[.bool p.1, .bool p.2]] w fun e w' => e = .returned (.bool (allW l p)) ∧ Below w.heap.size w w') := fun p w ho => sight_all_any T b n X x Y p D l w ho HML.out
    refine wp_region_seq (fun w' => Below w2.heap.size w2 w' ∧ w'.ownsMap Tryd.prog 3 wayElem b n D ∧ w'.cell? ⟨w1.heap.size, 0, none⟩ = some (.int .i64 (T : Int)) ∧ w'.cell? ⟨w1.heap.size, 1, none⟩ = some (.map (some b)) ∧ w'.cell? ⟨w1.heap.size, 2, none⟩ = some (.int .i64 X) ∧ w'.cell? ⟨w1.heap.size, 3, none⟩ = some (.int .i64 0) ∧ w'.cell? ⟨w1.heap.size, 4, none⟩ = some (.int .i64 x) ∧ w'.cell? ⟨w1.heap.size, 5, none⟩ = some (.int .i64 Y))
      (by kernel_rfl) (by kernel_rfl) HS0.out ?_
    show Seq _ _ _ _ [_, _, _, _, _, _, _, _, _, _, _, _, _] _
    repeat (first
      | (refine seq_skip (by rfl) ?_; (try simp only [Act.put, List.setIfInBounds_toArray, List.set_cons_zero, List.set_cons_succ]))
      | (refine seq_val ?_ (by rfl) ?_ ?_
         rotate_left 1
         · intro w6 hS6; have hln := hS6.2.1.len Tryd.underlying76 3; go_simp; first | done | with_reducible rfl
         (try simp only [Act.put, List.setIfInBounds_toArray, List.set_cons_zero, List.set_cons_succ]))
      | (refine seq_call ?_ ?_ ?_ (by rfl) ?_ ?_ ?_
         rotate_left 3
         · intro w6 hS6; go_simp; (refine And.intro ?_ ?_ <;> rfl)
         · intro w6 hS6
           first | (with_reducible refine (HAL.out (true, false) _ hS6.2.1).mono ?_) | (with_reducible refine (HAL.out (false, true) _ hS6.2.1).mono ?_)
           rintro e w7 ⟨rfl, hb7⟩
           refine And.intro ?_ (HS.out _ (hS6.1.trans (hb7.mono hS6.1.size)))
           rfl
         (try simp only [Act.put, List.setIfInBounds_toArray, List.set_cons_zero, List.set_cons_succ])))
    refine seq_end ?_
    intro w6 hS6
    have HBW2 := Lib.hid (HB1.out.trans (HB2.out.mono HB1.out.size))
    obtain ⟨hb6, hown6, s0, s1, s2, s3, s4, s5⟩ := hS6
    have HMO6 := Lib.hid hown6
    have HB6 := Lib.hid (HBW2.out.trans (hb6.mono HBW2.out.size))
    have hx6 := HX1.out.of_eq ((HB2.out.trans (hb6.mono HB2.out.size)).block _ HX1.out.lt)
    have x0 := hx6.cell (k := 0) rfl
    have hnb : (((Maps.size D : Nat) : Int) == 0) = (l.length == 0) := by
      rw [HML.out.size, Bool.eq_iff_iff]
      simp
    clear hb6 hown6 hx6 HS HS0
    have HKF := HRR
    unfold kindF at HRR
    generalize (l.length == 0) = nb at *
    generalize allW l (true, false) = mb at *
    generalize allW l (false, true) = gb at *
    by_cases h1 : T = 1
    · subst h1
      rw [if_pos rfl] at HRR
      go_wp2_with (first | (go_at_call 27; refine (pick_any _ _ _ _).mono ?_; rintro e w' ⟨rfl, rfl⟩))
      go_ret2
      exact ⟨HB6.out, .inr ⟨hT, X, x, Y, HFIN.out, by rw [HLL.out, HTT.out, HKF.out, ← HRR.out]; rfl⟩⟩
    rw [if_neg h1] at HRR
    have g1 : ((T : Int) == 1) = false := by simp; omega
    by_cases h2 : T = 2
    · subst h2
      rw [if_pos rfl] at HRR
      clear h1
      generalize htb : allW l (true, true) = tb at *
      have HAT : Hid (∀ w : World, w.ownsMap Tryd.prog 3 wayElem b n D → _) := fun w ho => HAL.out (true, true) w ho
      rw [htb] at HAT
      dsimp only at HAT
      clear htb
      go_wp2_with (first | (go_at_call 27; refine (pick_any _ _ _ _).mono ?_; rintro e w' ⟨rfl, rfl⟩) | (go_at_call 26; refine (HAT.out _ HMO6.out).mono ?_; rintro e w7 ⟨rfl, hb7⟩; have HB7 := Lib.hid (HB6.out.trans (hb7.mono HB6.out.size)); clear hb7))
      go_ret2
      exact ⟨HB7.out, .inr ⟨hT, X, x, Y, HFIN.out, by rw [HLL.out, HTT.out, HKF.out, ← HRR.out]; rfl⟩⟩
    rw [if_neg h2] at HRR
    have g2 : ((T : Int) == 2) = false := by simp; omega
    by_cases h3 : T = 3
    · subst h3
      rw [if_pos rfl] at HRR
      clear h1 h2
      have HFI := HFIN.out
      have hX1 := HFI.X1
      have hY1 := HFI.Y1
      have hx0 := HFI.x0
      have hxX := HFI.xX
      have HLA : Hid (∀ w : World, w.ownsMap Tryd.prog 3 wayElem b n D → _) := fun w ho => sight_along_any c.g HOK.out.g 3 b n X x Y D l w ho HML.out HWT.out hX24 hY24 hX1 hY1 hx0 hxX
      unfold sightV at HLA
      clear hX1 hY1 hx0 hxX HFI
      generalize alongAll c.g ⟨X, 0⟩ ⟨x, Y⟩ l = ab at *
      go_wp2_with (first | (go_at_call 27; refine (pick_any _ _ _ _).mono ?_; rintro e w' ⟨rfl, rfl⟩) | (go_at_call 28; refine (HLA.out _ HMO6.out).mono ?_; rintro e w7 ⟨rfl, hb7⟩; have HB7 := Lib.hid (HB6.out.trans (hb7.mono HB6.out.size)); clear hb7))
      go_ret2
      exact ⟨HB7.out, .inr ⟨hT, X, x, Y, HFIN.out, by rw [HLL.out, HTT.out, HKF.out, ← HRR.out]; rfl⟩⟩
    rw [if_neg h3] at HRR
    have g3 : ((T : Int) == 3) = false := by simp; omega
    by_cases h4 : T = 4
    · rw [if_pos h4] at HRR
      have g4 : ((T : Int) == 4) = true := by simp; omega
      clear h1 h2 h3 h4
      try rw [hnb]
      have HMR : Hid (mirW l = l.all fun e => e.2.1) := rfl
      generalize mirW l = mw at *
      rename World => w6
      have HRW : Hid (w.heap.size ≤ w6.heap.size) := HB6.out.size
      go_upto_region 16 with (at_range
                              refine wpList_range_own _ rfl _ 76 rfl 3 87 K3 Tryd.underlying76 wayElem b n D rfl HMO6.out ?_
                              intro w7 hrg0 hg0 hs0)
      have HRG := Lib.hid hrg0
      have HB7 : Hid (Below w6.heap.size w6 w7) := ⟨hg0.os, hg0.tape, hg0.output, hg0.size, fun k hk => hg0.block k hk (by simp)⟩
      clear hrg0 hg0 hs0 s0 s1 s2 s3 s4 s5 x0
      go_frame
      go_loopg [10, 76] (Maps.size D) (fun gg sv _ wr => ∃ (left : Lit → Bool) (sb : Bool), wr.ranges Tryd.prog 3 wayElem b w6.heap.size n D left gg ∧ (∀ kl, left kl = true → Maps.has D kl = true) ∧ sv = .bool sb ∧ (sb = true ↔ ∀ e ∈ l, left (kt e.1) = false → e.2.1 = true) ∧ Below w6.heap.size w6 wr)
      case atStart => exact ⟨Maps.has D, true, HRG.out, fun kl h => h, rfl, ⟨fun _ e he h => (by
        rw [(HML.out.keys _).2 ⟨e, he, rfl⟩] at h
        cases h), fun _ => rfl⟩, HB7.out⟩
      case round =>
        clear HRG HB7
        obtain ⟨left, sb, hrg, hlh, rfl, hall, hb⟩ := hrel
        have HRG := Lib.hid hrg
        have HLH := Lib.hid hlh
        have HALL := Lib.hid hall
        have HBR := Lib.hid hb
        clear hrg hlh hall hb
        rename World => wr
        go_upto_region 17 with (at_next
                                refine wp_next_way rfl _ rfl b w6.heap.size n D left _ HML.out HLH.out rfl HRG.out ?_ ?_)
        · intro hz0 hno
          have HE : Hid (mw = sb) := by
            show _ = _
            rw [HMR.out, Bool.eq_iff_iff, HALL.out, List.all_eq_true]
            exact ⟨fun h e he _ => h e he, fun h e he => h e he (hno _)⟩
          clear hz0 hno
          go_wp2_with (first | (go_at_call 27; refine (pick_any _ _ _ _).mono ?_; rintro e w' ⟨rfl, rfl⟩))
          go_ret2
          exact ⟨HB6.out.trans (HBR.out.mono HB6.out.size), .inr ⟨hT, X, x, Y, HFIN.out, by rw [HLL.out, HTT.out, HKF.out, ← HRR.out, HE.out]; rfl⟩⟩
        · intro xe w8 cnt2 hmem hrg2 hlt2 hg2 hs2' hen
          have HRG2 := Lib.hid hrg2
          have HB2' : Hid (Below w6.heap.size w6 w8) := HBR.out.grown hg2 HBR.out.size (fun k e => by cases e; exact Nat.le_refl _)
          have HME := Lib.hid hmem
          obtain ⟨xt, xm, xg⟩ := xe
          dsimp only at hen
          have hxs : Hid (Ent.e ⟨xt, xm, xg⟩ = (xt, (xm, xg))) := rfl
          rw [hxs.out] at HME
          clear hrg2 hg2 hs2' hmem
          go_upto_region 17 with fail
          go_upto_region 18 with fail
          clear hen
          have hd := al1 w8 (.cells #[.bool xm, .bool xg] 87)
          have HE2 := Lib.hid (Arr.new w8 #[.bool xm, .bool xg] 87)
          have HRG3 := Lib.hid (HRG2.out.alloc (.cells #[.bool xm, .bool xg] 87))
          generalize w8.alloc (.cells #[.bool xm, .bool xg] 87) = w9 at *
          have HB9 := Lib.hid (HB2'.out.trans (hd.mono HB2'.out.size))
          clear hd
          have e0 := HE2.out.cell (k := 0) rfl
          have HNX : Hid ((sb && xm) = true ↔ ∀ e ∈ l, (left (kt e.1) && !(kt e.1).sameKey (kt xt)) = false → e.2.1 = true) := by
            show _ ↔ _
            rw [Bool.and_eq_true, HALL.out]
            constructor
            · rintro ⟨h1, h2⟩ e he h
              rcases hle : left (kt e.1) with _ | _
              · exact h1 e he hle
              · rw [hle, Bool.true_and] at h
                have hs : (kt e.1).sameKey (kt xt) = true := by simpa using h
                have ht := kt_inj (WideAt.sameKey_eq hs)
                have h3 := HML.out.at_ e he (.lit (.bool true))
                have h4 := HML.out.at_ _ HME.out (.lit (.bool true))
                dsimp only at h4
                rw [← ht, h3] at h4
                rw [wayD_inj h4]
                exact h2
            · intro h
              refine ⟨fun e he hle => h e he (by rw [hle]; rfl), ?_⟩
              have := h _ HME.out (by
                dsimp only
                rw [WideAt.sameKey_self (kt_key xt)]
                simp)
              exact this
          rcases sb with _ | _
          · go_wp2_with fail
            go_roundg cnt2
            case measure => omega
            case rel => exact ⟨_, false, HRG3.out, fun kl h => HLH.out kl (by simp only [Bool.and_eq_true] at h; exact h.1), rfl, by simpa using HNX.out, HB9.out⟩
          · go_wp2_with fail
            go_roundg cnt2
            case measure => omega
            case rel => exact ⟨_, xm, HRG3.out, fun kl h => HLH.out kl (by simp only [Bool.and_eq_true] at h; exact h.1), rfl, by simpa using HNX.out, HB9.out⟩
    rw [if_neg h4] at HRR
    have g4 : ((T : Int) == 4) = false := by simp; omega
    clear h1 h2 h3 h4
    go_wp2_with (first | (go_at_call 27; refine (pick_any _ _ _ _).mono ?_; rintro e w' ⟨rfl, rfl⟩))
    go_ret2
    exact ⟨HB6.out, .inr ⟨hT, X, x, Y, HFIN.out, by rw [HLL.out, HTT.out, HKF.out, ← HRR.out]; rfl⟩⟩
end Go.Proofs.YtmmakljmikdooaaDoor
/- Chapter 4: the program's Name. -/
namespace Go.Proofs.YtmmakljmikdooaaDoor
open Go.RowKit Go.Maps
set_option linter.unusedVariables false
set_option linter.unusedSimpArgs false

def nameL : List ByteArray := [⟨#[112, 49]⟩, ⟨#[112, 50]⟩, ⟨#[112, 109]⟩, ⟨#[112, 103]⟩, ⟨#[99, 109]⟩, ⟨#[112, 109, 109]⟩, ⟨#[112, 109, 103]⟩, ⟨#[112, 103, 103]⟩, ⟨#[99, 109, 109]⟩, ⟨#[112, 52]⟩, ⟨#[112, 52, 109]⟩, ⟨#[112, 52, 103]⟩, ⟨#[112, 51]⟩, ⟨#[112, 51, 109, 49]⟩, ⟨#[112, 51, 49, 109]⟩, ⟨#[112, 54]⟩, ⟨#[112, 54, 109]⟩]
def nameF (k : Int) : ByteArray := nameL.getD (k.toNat - 1) ⟨#[]⟩
set_option maxRecDepth 100000 in
theorem Name_any (k : Int) (w : World) (h : 1 ≤ k ∧ k ≤ 17) : Calls Tryd.prog 15 #[.int .i64 k] w fun e w' => e = .returned (.tuple #[.string (nameF k), .int .i64 0]) ∧ Below w.heap.size w w' := by
  obtain ⟨j, rfl⟩ : ∃ j : Nat, k = (j : Int) + 1 := ⟨(k - 1).toNat, by omega⟩
  have hj : j < 17 := by omega
  have HN : Hid (nameF ((j : Int) + 1) = nameL.getD j ⟨#[]⟩) := by
    show _ = _
    unfold nameF
    rw [show ((j : Int) + 1).toNat - 1 = j by omega]
  have HA := Lib.hid (Arr.new w #[.string ⟨#[112, 49]⟩, .string ⟨#[112, 50]⟩, .string ⟨#[112, 109]⟩, .string ⟨#[112, 103]⟩, .string ⟨#[99, 109]⟩, .string ⟨#[112, 109, 109]⟩, .string ⟨#[112, 109, 103]⟩, .string ⟨#[112, 103, 103]⟩, .string ⟨#[99, 109, 109]⟩, .string ⟨#[112, 52]⟩, .string ⟨#[112, 52, 109]⟩, .string ⟨#[112, 52, 103]⟩, .string ⟨#[112, 51]⟩, .string ⟨#[112, 51, 109, 49]⟩, .string ⟨#[112, 51, 49, 109]⟩, .string ⟨#[112, 54]⟩, .string ⟨#[112, 54, 109]⟩] 90)
  have HB := Lib.hid (al1 w (.cells #[.string ⟨#[112, 49]⟩, .string ⟨#[112, 50]⟩, .string ⟨#[112, 109]⟩, .string ⟨#[112, 103]⟩, .string ⟨#[99, 109]⟩, .string ⟨#[112, 109, 109]⟩, .string ⟨#[112, 109, 103]⟩, .string ⟨#[112, 103, 103]⟩, .string ⟨#[99, 109, 109]⟩, .string ⟨#[112, 52]⟩, .string ⟨#[112, 52, 109]⟩, .string ⟨#[112, 52, 103]⟩, .string ⟨#[112, 51]⟩, .string ⟨#[112, 51, 109, 49]⟩, .string ⟨#[112, 51, 49, 109]⟩, .string ⟨#[112, 54]⟩, .string ⟨#[112, 54, 109]⟩] 90))
  go_enter Tryd.func15, Tryd.ntmps15
  go_upto_region 2 with fail
  generalize w.alloc (.cells #[.string ⟨#[112, 49]⟩, .string ⟨#[112, 50]⟩, .string ⟨#[112, 109]⟩, .string ⟨#[112, 103]⟩, .string ⟨#[99, 109]⟩, .string ⟨#[112, 109, 109]⟩, .string ⟨#[112, 109, 103]⟩, .string ⟨#[112, 103, 103]⟩, .string ⟨#[99, 109, 109]⟩, .string ⟨#[112, 52]⟩, .string ⟨#[112, 52, 109]⟩, .string ⟨#[112, 52, 103]⟩, .string ⟨#[112, 51]⟩, .string ⟨#[112, 51, 109, 49]⟩, .string ⟨#[112, 51, 49, 109]⟩, .string ⟨#[112, 54]⟩, .string ⟨#[112, 54, 109]⟩] 90) = w1 at *
  have hc : w1.cell? ⟨w.heap.size, j, none⟩ = some (.string (nameL.getD j ⟨#[]⟩)) := by
    refine HA.out.cell ?_
    have : ∀ i, i < 17 → ([.string ⟨#[112, 49]⟩, .string ⟨#[112, 50]⟩, .string ⟨#[112, 109]⟩, .string ⟨#[112, 103]⟩, .string ⟨#[99, 109]⟩, .string ⟨#[112, 109, 109]⟩, .string ⟨#[112, 109, 103]⟩, .string ⟨#[112, 103, 103]⟩, .string ⟨#[99, 109, 109]⟩, .string ⟨#[112, 52]⟩, .string ⟨#[112, 52, 109]⟩, .string ⟨#[112, 52, 103]⟩, .string ⟨#[112, 51]⟩, .string ⟨#[112, 51, 109, 49]⟩, .string ⟨#[112, 51, 49, 109]⟩, .string ⟨#[112, 54]⟩, .string ⟨#[112, 54, 109]⟩] : List Value)[i]? = some (.string (nameL.getD i ⟨#[]⟩)) := by
      intro i hi
      have : i = 0 ∨ i = 1 ∨ i = 2 ∨ i = 3 ∨ i = 4 ∨ i = 5 ∨ i = 6 ∨ i = 7 ∨ i = 8 ∨ i = 9 ∨ i = 10 ∨ i = 11 ∨ i = 12 ∨ i = 13 ∨ i = 14 ∨ i = 15 ∨ i = 16 := by omega
      rcases this with rfl | rfl | rfl | rfl | rfl | rfl | rfl | rfl | rfl | rfl | rfl | rfl | rfl | rfl | rfl | rfl | rfl <;> rfl
    exact this j hj
  generalize nameL.getD j ⟨#[]⟩ = s at *
  have g1 : decide ((j : Int) + 1 < 1) = false := decide_eq_false (by omega)
  have g2 : decide ((j : Int) + 1 > 17) = false := decide_eq_false (by omega)
  have hji : (j : Int) < 17 := by omega
  have hs : (j : Int) + 1 - 1 = (j : Int) := by omega
  go_wp2_with fail
  go_ret2
  refine ⟨?_, HB.out⟩
  rw [HN.out]; rfl
end Go.Proofs.YtmmakljmikdooaaDoor
