import Derived.Test.YtmmakljmikdooaaDoorTwKindWalk6
/- Chapter 4: the program's along. -/
namespace Go.Proofs.YtmmakljmikdooaaDoor
open Go.RowKit Go.Maps
set_option linter.unusedVariables false
set_option linter.unusedSimpArgs false

def nearStep (g : Int) (s u : Pt) (acc : Int × List Pt) (z : Pt) : Int × List Pt :=
  if (isZ z || !hasF s u z) = true then acc
  else if acc.1 = 0 ∨ nrm g z < acc.1 then (nrm g z, [z]) else if nrm g z = acc.1 then (acc.1, acc.2 ++ [z]) else acc
def resetB (a b : Int) : Bool := decide (a = 0 ∨ b < a)
def ptAt (i j : Nat) : Pt := ⟨(j : Int) - 72, (i : Int) - 72⟩
def nearRow (g : Int) (s u : Pt) (i : Nat) (acc : Int × List Pt) : Nat → Int × List Pt
  | 0 => acc
  | k + 1 => nearStep g s u (nearRow g s u i acc k) (ptAt i k)
def nearF (g : Int) (s u : Pt) : Nat → Int × List Pt
  | 0 => (0, [])
  | i + 1 => nearRow g s u i (nearF g s u i) 145
def same2 (a b : Pt) : Bool := decide (a.x = b.x ∧ a.y = b.y)
def alongAll (g : Int) (s u : Pt) (l : List (Nat × (Bool × Bool))) : Bool := l.any fun e => (nearF g s u 145).2.any fun z => same2 (lin g e.1 true z) z
theorem nearStep_len (g : Int) (s u : Pt) (acc : Int × List Pt) (z : Pt) : (nearStep g s u acc z).2.length ≤ acc.2.length + 1 := by
  unfold nearStep
  split
  · simp
  · split
    · simp
    · split <;> simp
theorem nearRow_len (g : Int) (s u : Pt) (i : Nat) (acc : Int × List Pt) : ∀ k, (nearRow g s u i acc k).2.length ≤ acc.2.length + k
  | 0 => by simp [nearRow]
  | k + 1 => by
    have := nearStep_len g s u (nearRow g s u i acc k) (ptAt i k)
    have := nearRow_len g s u i acc k
    unfold nearRow
    omega
theorem nearF_len (g : Int) (s u : Pt) : ∀ i, (nearF g s u i).2.length ≤ i * 145
  | 0 => by simp [nearF]
  | i + 1 => by
    have := nearRow_len g s u i (nearF g s u i) 145
    have := nearF_len g s u i
    unfold nearF
    omega
def PIn (B : Int) (l : List Pt) : Prop := ∀ z ∈ l, z.le B
theorem nearStep_in {g : Int} {s u : Pt} {acc : Int × List Pt} {z : Pt} {B : Int} (h : PIn B acc.2) (hz : z.le B) : PIn B (nearStep g s u acc z).2 := by
  unfold nearStep
  split
  · exact h
  · split
    · intro y hy
      simp at hy
      rw [hy]; exact hz
    · split
      · intro y hy
        rcases List.mem_append.1 hy with h1 | h1
        · exact h y h1
        · simp at h1
          rw [h1]; exact hz
      · exact h
theorem ptAt_le {i k : Nat} (h1 : i ≤ 144) (h2 : k ≤ 144) : (ptAt i k).le 72 := by
  unfold ptAt Pt.le
  dsimp only
  omega
theorem nearRow_in {g : Int} {s u : Pt} {i : Nat} {acc : Int × List Pt} (h : PIn 72 acc.2) (hi : i ≤ 144) : ∀ k, k ≤ 145 → PIn 72 (nearRow g s u i acc k).2
  | 0, _ => h
  | k + 1, hk => nearStep_in (nearRow_in h hi k (by omega)) (ptAt_le hi (by omega))
theorem nearF_in {g : Int} {s u : Pt} : ∀ i, i ≤ 145 → PIn 72 (nearF g s u i).2
  | 0, _ => fun z hz => by simp [nearF] at hz
  | i + 1, hi => nearRow_in (nearF_in i (by omega)) (by omega) 145 (Nat.le_refl _)
set_option maxRecDepth 100000 in
set_option maxHeartbeats 4000000 in
theorem sight_along_any (g : Int) (hg : g = 4 ∨ g = 6) (T b n : Nat) (X x Y : Int) (D : DU) (l : List (Nat × (Bool × Bool))) (w : World) (hown : w.ownsMap Tryd.prog 3 wayElem b n D) (hl : MapL wayD D l) (ht : ∀ e ∈ l, (e.1 : Int) < g)
    (hX : X ≤ 24) (hY : Y ≤ 24) (hX1 : 1 ≤ X) (hY1 : 1 ≤ Y) (hx0 : 0 ≤ x) (hxX : x < X) :
    Calls Tryd.prog 28 #[sightV T b X x Y, .int .i64 g] w fun e w' => e = .returned (.bool (alongAll g ⟨X, 0⟩ ⟨x, Y⟩ l)) ∧ Below w.heap.size w w' := by
  have HOWN := Lib.hid hown
  have HL := Lib.hid hl
  have HTT := Lib.hid ht
  obtain ⟨r, hr⟩ : ∃ r, alongAll g ⟨X, 0⟩ ⟨x, Y⟩ l = r := ⟨_, rfl⟩
  rw [hr]
  have HRR := Lib.hid hr
  clear hr hown hl ht
  unfold sightV
  have HX := Lib.hid (Arr.new w #[.int .i64 (T : Int), .map (some b), .int .i64 X, .int .i64 0, .int .i64 x, .int .i64 Y] 82)
  have HB0 := Lib.hid (al1 w (.cells #[.int .i64 (T : Int), .map (some b), .int .i64 X, .int .i64 0, .int .i64 x, .int .i64 Y] 82))
  have HO0 := Lib.hid (HOWN.out.alloc (.cells #[.int .i64 (T : Int), .map (some b), .int .i64 X, .int .i64 0, .int .i64 x, .int .i64 Y] 82))
  have HHAS : Hid (∀ (z : Pt) (w : World), z.le 72 → Calls Tryd.prog 44 #[.agg #[.int .i64 X, .int .i64 0, .int .i64 x, .int .i64 Y], .agg #[.int .i64 z.x, .int .i64 z.y]] w fun e w' => e = .returned (.bool (hasF ⟨X, 0⟩ ⟨x, Y⟩ z)) ∧ Below w.heap.size w w') := fun z w hz =>
    has_any ⟨X, 0⟩ ⟨x, Y⟩ z w (le_mono hz (by omega)) (by unfold Pt.le; dsimp only; omega) (by unfold Pt.le; dsimp only; omega) hX1 hY1
  have HNRM : Hid (∀ (z : Pt) (w : World), z.le 72 → Calls Tryd.prog 45 #[.int .i64 g, .agg #[.int .i64 z.x, .int .i64 z.y]] w fun e w' => e = .returned (.tuple #[.int .i64 (nrm g z), .int .i64 0]) ∧ Below w.heap.size w w') := fun z w hz =>
    Norm_any g hg z w (le_mono hz (by omega))
  have HST : Hid (∀ acc z, nearStep g ⟨X, 0⟩ ⟨x, Y⟩ acc z = if (isZ z || !hasF ⟨X, 0⟩ ⟨x, Y⟩ z) = true then acc else if acc.1 = 0 ∨ nrm g z < acc.1 then (nrm g z, [z]) else if nrm g z = acc.1 then (acc.1, acc.2 ++ [z]) else acc) := fun _ _ => rfl
  have HRS : Hid (∀ i acc k, nearRow g ⟨X, 0⟩ ⟨x, Y⟩ i acc (k + 1) = nearStep g ⟨X, 0⟩ ⟨x, Y⟩ (nearRow g ⟨X, 0⟩ ⟨x, Y⟩ i acc k) (ptAt i k)) := fun _ _ _ => rfl
  have HNS : Hid (∀ i, nearF g ⟨X, 0⟩ ⟨x, Y⟩ (i + 1) = nearRow g ⟨X, 0⟩ ⟨x, Y⟩ i (nearF g ⟨X, 0⟩ ⟨x, Y⟩ i) 145) := fun _ => rfl
  have HLN : Hid (∀ i k, i ≤ 144 → k ≤ 145 → (nearRow g ⟨X, 0⟩ ⟨x, Y⟩ i (nearF g ⟨X, 0⟩ ⟨x, Y⟩ i) k).2.length ≤ 30000) := fun i k hi hk => by
    have h1 := nearRow_len g ⟨X, 0⟩ ⟨x, Y⟩ i (nearF g ⟨X, 0⟩ ⟨x, Y⟩ i) k
    have h2 := nearF_len g ⟨X, 0⟩ ⟨x, Y⟩ i
    omega
  go_enter Tryd.func28, Tryd.ntmps28
  go_upto_region 4 with fail
  have HS0 : Hid ((w.alloc (.cells #[.int .i64 (T : Int), .map (some b), .int .i64 X, .int .i64 0, .int .i64 x, .int .i64 Y] 82)).heap.size = w.heap.size + 1) := by show _ = _; simp
  generalize w.alloc (.cells #[.int .i64 (T : Int), .map (some b), .int .i64 X, .int .i64 0, .int .i64 x, .int .i64 Y] 82) = w0 at *
  go_loopg [5, 6, 7] 145 (fun gg bv sv yv wr => ∃ i : Nat, i ≤ 145 ∧ gg = 145 - i ∧ yv = .int .i64 ((i : Int) - 72) ∧ ∃ acc : Int × List Pt, acc = nearF g ⟨X, 0⟩ ⟨x, Y⟩ i ∧ bv = .int .i64 acc.1 ∧ wr.ownsRow w0.heap.size 78 2 sv acc.2.length (acc.2.flatMap Pt.cells) ∧ Below w0.heap.size w0 wr)
  case atStart => exact ⟨0, by omega, rfl, rfl, (0, []), rfl, rfl, World.ownsRow_nil _ _ _ _, Below.refl _ _⟩
  case round =>
    obtain ⟨i, hi, rfl, rfl, acc, hacc, rfl, ho, hb⟩ := hrel
    have HO := Lib.hid ho
    have HB := Lib.hid hb
    have HACC := Lib.hid hacc
    clear ho hb hacc
    by_cases hlt : i < 145
    · have hzy1 : -72 ≤ (i : Int) - 72 := by omega
      have hzy2 : (i : Int) - 72 ≤ 72 := by omega
      have HZY : Hid (((i + 1 : Nat) : Int) - 72 = (i : Int) - 72 + 1) := by show _ = _; omega
      have HZE : Hid (∀ k, ptAt i k = ⟨(k : Int) - 72, (i : Int) - 72⟩) := fun _ => rfl
      generalize hzy : (i : Int) - 72 = zy at *
      clear hzy
      go_upto_region 7 with fail
      go_loopg [5, 6, 8] 145 (fun gg bv sv xv w2 => ∃ k : Nat, k ≤ 145 ∧ gg = 145 - k ∧ xv = .int .i64 ((k : Int) - 72) ∧ ∃ ac2 : Int × List Pt, ac2 = nearRow g ⟨X, 0⟩ ⟨x, Y⟩ i (nearF g ⟨X, 0⟩ ⟨x, Y⟩ i) k ∧ bv = .int .i64 ac2.1 ∧ w2.ownsRow w0.heap.size 78 2 sv ac2.2.length (ac2.2.flatMap Pt.cells) ∧ Below w0.heap.size w0 w2)
      case atStart => exact ⟨0, by omega, rfl, rfl, acc, HACC.out, rfl, HO.out, HB.out⟩
      case round =>
        clear HO HB HACC
        obtain ⟨k, hk, rfl, rfl, ac2, hacc, rfl, ho, hb⟩ := hrel
        have HO := Lib.hid ho
        have HB := Lib.hid hb
        have HACC := Lib.hid hacc
        clear ho hb hacc
        by_cases hlk : k < 145
        · have HZA := Lib.hid (HZE.out k)
          have HRK := Lib.hid (HRS.out i (nearF g ⟨X, 0⟩ ⟨x, Y⟩ i) k)
          have HLB := Lib.hid (HLN.out i k (by omega) hk)
          have HZX : Hid (((k + 1 : Nat) : Int) - 72 = (k : Int) - 72 + 1) := by show _ = _; omega
          have hzx1 : -72 ≤ (k : Int) - 72 := by omega
          have hzx2 : (k : Int) - 72 ≤ 72 := by omega
          generalize hzx : (k : Int) - 72 = zx at *
          have HZZ := Lib.hid hzx
          clear hzx
          rename World => w3
          go_upto_region 10 with fail
          have HPZ := Lib.hid (Arr.new w3 #[.int .i64 zx, .int .i64 zy] 78)
          have hd := al1 w3 (.cells #[.int .i64 zx, .int .i64 zy] 78)
          generalize w3.alloc (.cells #[.int .i64 zx, .int .i64 zy] 78) = w4 at *
          have HB4 := Lib.hid (HB.out.trans (hd.mono HB.out.size))
          have HO4 := Lib.hid (own_below HO.out hd (Nat.le_refl _))
          clear hd HB HO
          have p0 := HPZ.out.cell (k := 0) rfl
          have p1 := HPZ.out.cell (k := 1) rfl
          have hx4 := HX.out.of_eq (HB4.out.block _ HX.out.lt)
          have HX4 := Lib.hid hx4
          have s2 := hx4.cell (k := 2) rfl
          have s3 := hx4.cell (k := 3) rfl
          have s4 := hx4.cell (k := 4) rfl
          have s5 := hx4.cell (k := 5) rfl
          clear hx4
          go_cut [37] from 28 to 37 (fun tv wx => tv = .bool (isZ ⟨zx, zy⟩ || !hasF ⟨X, 0⟩ ⟨x, Y⟩ ⟨zx, zy⟩) ∧ Below w4.heap.size w4 wx)
          case first =>
            have HIZ : Hid (isZ ⟨zx, zy⟩ = decide (zx = 0 ∧ zy = 0)) := rfl
            by_cases h0 : zx = 0 ∧ zy = 0
            · have h1 : (zx == 0) = true := by simpa using h0.1
              have h2 : (zy == 0) = true := by simpa using h0.2
              rw [decide_eq_true h0] at HIZ
              clear h0
              go_wp2_with fail
              go_meet
              exact ⟨by rw [HIZ.out]; rfl, Below.refl _ _⟩
            · rw [decide_eq_false h0] at HIZ
              by_cases h1' : zx = 0
              · have h1 : (zx == 0) = true := by simpa using h1'
                have h2 : (zy == 0) = false := by simpa using fun h => h0 ⟨h1', h⟩
                clear h0 h1'
                go_wp2_with fail
                refine (HHAS.out ⟨zx, zy⟩ _ (by unfold Pt.le; dsimp only; omega)).mono ?_
                rintro e w5 ⟨rfl, hb5⟩
                go_wp2_with fail
                go_meet
                exact ⟨by rw [HIZ.out]; simp, hb5⟩
              · have h1 : (zx == 0) = false := by simpa using h1'
                clear h0 h1'
                go_wp2_with fail
                refine (HHAS.out ⟨zx, zy⟩ _ (by unfold Pt.le; dsimp only; omega)).mono ?_
                rintro e w5 ⟨rfl, hb5⟩
                go_wp2_with fail
                go_meet
                exact ⟨by rw [HIZ.out]; simp, hb5⟩
          case rest =>
            obtain ⟨rfl, hb5⟩ := hcut
            rename World => w5
            have HB5 := Lib.hid (HB4.out.trans (hb5.mono HB4.out.size))
            have HO5 := Lib.hid (own_below HO4.out hb5 (Nat.le_refl _))
            have HPZ5 := Lib.hid (HPZ.out.of_eq (hb5.block _ HPZ.out.lt))
            clear hb5 p0 p1 s2 s3 s4 s5 HPZ HB4 HO4 HX4
            rw [HZA.out, HST.out] at HRK
            rcases hsk : (isZ ⟨zx, zy⟩ || !hasF ⟨X, 0⟩ ⟨x, Y⟩ ⟨zx, zy⟩) with _ | _
            · rw [hsk, if_neg (by simp), ← HACC.out] at HRK
              clear hsk
              have HNC : Hid (∀ w : World, _) := fun w => HNRM.out ⟨zx, zy⟩ w (by unfold Pt.le; dsimp only; omega)
              generalize nrm g ⟨zx, zy⟩ = nz at *
              obtain ⟨best, sh⟩ := ac2
              dsimp only at *
              have hshl : sh.length ≤ 30000 := by have := HLB.out; rw [← HACC.out] at this; exact this
              have p0 := HPZ5.out.cell (k := 0) rfl
              have p1 := HPZ5.out.cell (k := 1) rfl
              go_upto_region 11 with fail
              go_wp2_with fail
              refine (HNC.out _).mono ?_
              rintro e w6 ⟨rfl, hb6⟩
              have HB6 := Lib.hid (HB5.out.trans (hb6.mono HB5.out.size))
              have HO6 := Lib.hid (own_below HO5.out hb6 (Nat.le_refl _))
              have HPZ6 := Lib.hid (HPZ5.out.of_eq (hb6.block _ HPZ5.out.lt))
              clear hb6 p0 p1 HPZ5 HB5 HO5
              have p0 := HPZ6.out.cell (k := 0) rfl
              have p1 := HPZ6.out.cell (k := 1) rfl
              go_upto_region 12 with fail
              go_cut [50] from 44 to 50 (fun tv wx => tv = .bool (resetB best nz) ∧ wx = w6)
              case first =>
                by_cases h0 : best = 0
                · have h1 : (best == 0) = true := by simpa using h0
                  have HD : Hid (resetB best nz = true) := decide_eq_true (.inl h0)
                  clear h0
                  go_wp2_with fail
                  go_meet
                  exact ⟨by rw [HD.out], rfl⟩
                · have h1 : (best == 0) = false := by simpa using h0
                  have HD : Hid (resetB best nz = decide (nz < best)) := by show _ = _; simp [resetB, h0]
                  clear h0
                  go_wp2_with fail
                  go_meet
                  exact ⟨by rw [HD.out], rfl⟩
              case rest =>
                obtain ⟨rfl, rfl⟩ := hcut
                rename World => w6
                rcases hre : resetB best nz with _ | _
                rotate_left 1
                · rw [if_pos (of_decide_eq_true hre)] at HRK
                  clear hre
                  go_upto_region 14 with fail
                  have HN0 : Hid (w6.ownsRow w0.heap.size 78 2 (.slice none 0 0) 0 []) := World.ownsRow_nil _ _ _ _
                  have hnn : (nz == nz) = true := by simp
                  have hl6 := HB6.out.size
                  go_wp2_with (at_builtin
                               refine app_el T59p [.int .i64 zx, .int .i64 zy] HN0.out HB6.out (Nat.le_refl _) rfl rfl rfl rfl rfl (by simp [Value.oneCell']) (by omega) ?_
                               intro v1 w7 hown1 hb1 hg1 ho1)
                  have HO7 := Lib.hid hown1
                  have HB7 := Lib.hid hb1
                  clear hown1 hb1 hg1 ho1 p0 p1 hnn
                  go_roundg (145 - (k + 1))
                  case measure => omega
                  case rel => exact ⟨k + 1, by omega, rfl, by rw [HZX.out], (nz, [⟨zx, zy⟩]), HRK.out.symm, rfl, by simpa [Pt.cells] using HO7.out, HB7.out⟩
                · rw [if_neg (of_decide_eq_false hre)] at HRK
                  clear hre
                  by_cases heq : nz = best
                  · rw [if_pos heq] at HRK
                    have hnn : (nz == best) = true := by simpa using heq
                    clear heq
                    go_wp2_with (at_builtin
                                 refine app_el T59p [.int .i64 zx, .int .i64 zy] HO6.out HB6.out (Nat.le_refl _) rfl rfl rfl rfl rfl (by simp [Value.oneCell']) (by omega) ?_
                                 intro v1 w7 hown1 hb1 hg1 ho1)
                    have HO7 := Lib.hid hown1
                    have HB7 := Lib.hid hb1
                    clear hown1 hb1 hg1 ho1 p0 p1 hnn
                    go_roundg (145 - (k + 1))
                    case measure => omega
                    case rel => exact ⟨k + 1, by omega, rfl, by rw [HZX.out], (best, sh ++ [⟨zx, zy⟩]), HRK.out.symm, rfl, by simpa [Pt.cells] using HO7.out, HB7.out⟩
                  · rw [if_neg heq] at HRK
                    have hnn : (nz == best) = false := by simpa using heq
                    clear heq
                    go_wp2_with fail
                    go_roundg (145 - (k + 1))
                    case measure => omega
                    case rel => exact ⟨k + 1, by omega, rfl, by rw [HZX.out], (best, sh), HRK.out.symm, rfl, HO6.out, HB6.out⟩
            · rw [hsk, if_pos rfl, ← HACC.out] at HRK
              clear hsk
              go_wp2_with fail
              go_roundg (145 - (k + 1))
              case measure => omega
              case rel => exact ⟨k + 1, by omega, rfl, by rw [HZX.out], ac2, HRK.out.symm, rfl, HO5.out, HB5.out⟩
        · obtain rfl : k = 145 := by omega
          rw [← HNS.out] at HACC
          go_wp2_with fail
          go_roundg (145 - (i + 1))
          case measure => omega
          case rel => exact ⟨i + 1, by omega, rfl, by rw [HZY.out], ac2, HACC.out, rfl, HO.out, HB.out⟩
    · obtain rfl : i = 145 := by omega
      have HIN := Lib.hid (nearF_in (g := g) (s := ⟨X, 0⟩) (u := ⟨x, Y⟩) 145 (Nat.le_refl _))
      have HRE : Hid (r = l.any fun e => (nearF g ⟨X, 0⟩ ⟨x, Y⟩ 145).2.any fun z => same2 (lin g e.1 true z) z) := HRR.out.symm
      have hln := nearF_len g ⟨X, 0⟩ ⟨x, Y⟩ 145
      rw [← HACC.out] at HIN HRE hln
      obtain ⟨bst, SH⟩ := acc
      dsimp only at *
      clear HRR HST HRS HNS HLN HACC HHAS HNRM
      obtain ⟨As, cs, rfl, hs1, hs2⟩ := own_form HO.out
      unfold maxLen at hs2
      have HROW := Lib.hid (Row.of_own HO.out)
      rename World => w5
      have hx5 := HX.out.of_eq (HB.out.block _ HX.out.lt)
      have s1 := hx5.cell (k := 1) rfl
      have HM5 := Lib.hid (HO0.out.kept (grown_none HB.out) (by simp))
      have HBW := Lib.hid (HB0.out.trans (HB.out.mono HB0.out.size))
      clear hx5 HO
      go_upto_region 17 with (at_range
                              refine wpList_range_own _ rfl _ 76 rfl 3 87 K3 Tryd.underlying76 wayElem b n D rfl HM5.out ?_
                              intro w6 hrg0 hg0 hs0)
      have HRG := Lib.hid hrg0
      have HB6 : Hid (Below w5.heap.size w5 w6) := ⟨hg0.os, hg0.tape, hg0.output, hg0.size, fun k hk => hg0.block k hk (by simp)⟩
      clear hrg0 hg0 hs0 s1
      go_frame
      go_loopg [62] (Maps.size D) (fun gg _ wr => ∃ left : Lit → Bool, wr.ranges Tryd.prog 3 wayElem b w5.heap.size n D left gg ∧ (∀ kl, left kl = true → Maps.has D kl = true) ∧ (∀ e ∈ l, left (kt e.1) = false → (SH.any fun z => same2 (lin g e.1 true z) z) = false) ∧ Below w5.heap.size w5 wr)
      case atStart => exact ⟨Maps.has D, HRG.out, fun kl h => h, fun e he h => (by
        rw [(HL.out.keys _).2 ⟨e, he, rfl⟩] at h
        cases h), HB6.out⟩
      case round =>
        clear HRG HB6
        obtain ⟨left, hrg, hlh, hall, hb⟩ := hrel
        have HRG := Lib.hid hrg
        have HLH := Lib.hid hlh
        have HALL := Lib.hid hall
        have HBR := Lib.hid hb
        clear hrg hlh hall hb
        rename World => wr
        go_upto_region 18 with (at_next
                                refine wp_next_way rfl _ rfl b w5.heap.size n D left _ HL.out HLH.out rfl HRG.out ?_ ?_)
        · intro hz0 hno
          have hallt : (l.any fun e => SH.any fun z => same2 (lin g e.1 true z) z) = false := List.any_eq_false.2 fun e he => by rw [HALL.out e he (hno _)]; simp
          have HE : Hid (r = false) := by show _ = _; rw [HRE.out, hallt]
          clear hz0 hno hallt
          go_wp2_with fail
          go_ret
          refine ⟨?_, HBW.out.trans (HBR.out.mono HBW.out.size)⟩
          rw [HE.out]; rfl
        · intro xe w7 cnt2 hmem hrg2 hlt2 hg2 hs2' hen
          have HRG2 := Lib.hid hrg2
          have HB2 : Hid (Below w5.heap.size w5 w7) := HBR.out.grown hg2 HBR.out.size (fun k e => by cases e; exact Nat.le_refl _)
          have HME := Lib.hid hmem
          obtain ⟨xt, xm, xg⟩ := xe
          dsimp only at hen
          have hxs : Hid (Ent.e ⟨xt, xm, xg⟩ = (xt, (xm, xg))) := rfl
          rw [hxs.out] at HME
          have hxt := HTT.out _ HME.out
          dsimp only at hxt
          clear hrg2 hg2 hs2' hmem
          go_upto_region 18 with fail
          go_upto_region 19 with fail
          clear hen
          go_upto_region 20 with fail
          go_loopg [68] SH.length (fun gg ctr w8 => ∃ j : Nat, j ≤ SH.length ∧ gg = SH.length - j ∧ ctr = .int .i64 j ∧ w8.ranges Tryd.prog 3 wayElem b w5.heap.size n D (fun z => left z && !z.sameKey (kt xt)) cnt2 ∧ Below w5.heap.size w5 w8 ∧ ∀ z ∈ SH.take j, same2 (lin g xt true z) z = false)
          case atStart => exact ⟨0, Nat.zero_le _, rfl, rfl, HRG2.out, HB2.out, fun z hz => by simp at hz⟩
          case round =>
            clear HRG2 HB2
            obtain ⟨j, hj, rfl, rfl, hrg, hb, hno⟩ := hrel
            have HRG2 := Lib.hid hrg
            have HB2 := Lib.hid hb
            have HNO := Lib.hid hno
            clear hrg hb hno
            by_cases hlj : j < SH.length
            · rename World => w8
              have hrr := HROW.out.same (w' := w8) fun b hb => HB2.out.block b hb.2
              obtain ⟨bm, om, rfl, _, hcm⟩ := els_at (f := Pt.cells) (fun _ => rfl) hrr (by decide) hlj
              have m0 : w8.cell? ⟨bm, om + j * 2, none⟩ = some (.int .i64 SH[j].x) := hcm 0 _ rfl
              have m1 : w8.cell? ⟨bm, om + j * 2 + 1, none⟩ = some (.int .i64 SH[j].y) := hcm 1 _ rfl
              have HZL := Lib.hid (HIN.out SH[j] (List.getElem_mem _))
              have HNX : Hid (same2 (lin g xt true SH[j]) SH[j] = false → ∀ z ∈ SH.take (j + 1), same2 (lin g xt true z) z = false) := fun e z hz => by
                rw [List.take_succ_eq_append_getElem hlj] at hz
                rcases List.mem_append.1 hz with h1 | h1
                · exact HNO.out z h1
                · simp at h1
                  rw [h1]; exact e
              have HYE : Hid (same2 (lin g xt true SH[j]) SH[j] = true → r = true) := fun e => by
                rw [HRE.out]
                exact List.any_eq_true.2 ⟨_, HME.out, List.any_eq_true.2 ⟨_, List.getElem_mem hlj, e⟩⟩
              clear hcm hrr
              generalize SH[j] = z at *
              have HAP : Hid (∀ w, Calls Tryd.prog 31 #[.int .i64 g, .agg #[.int .i64 (xt : Int), .bool true, .int .i64 0, .int .i64 0], .agg #[.int .i64 z.x, .int .i64 z.y]] w fun e w' => e = .returned (.tuple #[.agg #[.int .i64 (lin g xt true z).x, .int .i64 (lin g xt true z).y], .int .i64 0]) ∧ Below w.heap.size w w') := fun w => by
                have he : app g ⟨xt, true, ⟨0, 0⟩⟩ z = lin g xt true z := by unfold app; dsimp only; rw [Int.add_zero, Int.add_zero]
                have hz1 := HZL.out
                have hz2 := lin_le (g := g) (t := xt) (fl := true) hz1
                refine (Apply_any g hg ⟨xt, true, ⟨0, 0⟩⟩ z w (by unfold Pt.le; dsimp only; omega) hxt (le_mono hz1 (by omega)) (by rw [he]; exact le_mono hz2 (by omega))).mono ?_
                rintro e w' ⟨rfl, hb'⟩
                rw [he]
                exact ⟨rfl, hb'⟩
              have HSM : Hid (same2 (lin g xt true z) z = decide ((lin g xt true z).x = z.x ∧ (lin g xt true z).y = z.y)) := rfl
              generalize lin g xt true z = q at *
              generalize same2 q z = sm at *
              go_upto_region 22 with fail
              have HZB := Lib.hid (Arr.new w8 #[.int .i64 z.x, .int .i64 z.y] 78)
              have hd := al1 w8 (.cells #[.int .i64 z.x, .int .i64 z.y] 78)
              have HRG9 := Lib.hid (HRG2.out.alloc (.cells #[.int .i64 z.x, .int .i64 z.y] 78))
              generalize w8.alloc (.cells #[.int .i64 z.x, .int .i64 z.y] 78) = w9 at *
              have HB9 := Lib.hid (HB2.out.trans (hd.mono HB2.out.size))
              clear hd m0 m1 HRG2 HB2
              have m0 := HZB.out.cell (k := 0) rfl
              have m1 := HZB.out.cell (k := 1) rfl
              go_wp2_with fail
              refine (HAP.out _).mono ?_
              rintro e wA ⟨rfl, hbA⟩
              have HBA := Lib.hid (HB9.out.trans (hbA.mono HB9.out.size))
              have HZA := Lib.hid (HZB.out.of_eq (hbA.block _ HZB.out.lt))
              have HRGA := Lib.hid (HRG9.out.kept (grown_none hbA) (by simp) (by simp))
              clear hbA m0 m1 HRG9 HB9 HZB
              go_upto_region 23 with fail
              have HQB := Lib.hid (Arr.new wA #[.int .i64 q.x, .int .i64 q.y] 78)
              have hd := al1 wA (.cells #[.int .i64 q.x, .int .i64 q.y] 78)
              have HRGB := Lib.hid (HRGA.out.alloc (.cells #[.int .i64 q.x, .int .i64 q.y] 78))
              generalize wA.alloc (.cells #[.int .i64 q.x, .int .i64 q.y] 78) = wB at *
              have HBB := Lib.hid (HBA.out.trans (hd.mono HBA.out.size))
              have hz := HZA.out.of_eq (hd.block _ HZA.out.lt)
              have m0 := hz.cell (k := 0) rfl
              have m1 := hz.cell (k := 1) rfl
              have q0 := HQB.out.cell (k := 0) rfl
              have q1 := HQB.out.cell (k := 1) rfl
              clear hd hz HRGA HBA HZA
              by_cases he : q.x = z.x ∧ q.y = z.y
              · have e1 : (q.x == z.x) = true := by simpa using he.1
                have e2 : (q.y == z.y) = true := by simpa using he.2
                have HE : Hid (r = true) := HYE.out (by rw [HSM.out, decide_eq_true he])
                clear he
                go_wp2_with fail
                go_ret
                refine ⟨?_, HBW.out.trans (HBB.out.mono HBW.out.size)⟩
                rw [HE.out]; rfl
              · have HNY := Lib.hid (HNX.out (by rw [HSM.out, decide_eq_false he]))
                by_cases h1 : q.x = z.x
                · have e1 : (q.x == z.x) = true := by simpa using h1
                  have e2 : (q.y == z.y) = false := by simpa using fun h => he ⟨h1, h⟩
                  clear he h1
                  go_wp2_with fail
                  go_roundg (SH.length - (j + 1))
                  case measure => omega
                  case rel => exact ⟨j + 1, by omega, rfl, by go_num, HRGB.out, HBB.out, HNY.out⟩
                · have e1 : (q.x == z.x) = false := by simpa using h1
                  clear he h1
                  go_wp2_with fail
                  go_roundg (SH.length - (j + 1))
                  case measure => omega
                  case rel => exact ⟨j + 1, by omega, rfl, by go_num, HRGB.out, HBB.out, HNY.out⟩
            · obtain rfl : j = SH.length := by omega
              rw [List.take_length] at HNO
              have HALL3 : Hid (∀ e ∈ l, (left (kt e.1) && !(kt e.1).sameKey (kt xt)) = false → (SH.any fun z => same2 (lin g e.1 true z) z) = false) := fun e he h => by
                rcases hle : left (kt e.1) with _ | _
                · exact HALL.out e he hle
                · rw [hle, Bool.true_and] at h
                  have hs : (kt e.1).sameKey (kt xt) = true := by simpa using h
                  have ht := kt_inj (WideAt.sameKey_eq hs)
                  rw [ht]
                  exact List.any_eq_false.2 fun z hz => by rw [HNO.out z hz]; simp
              go_wp2_with fail
              go_roundg cnt2
              case measure => omega
              case rel => exact ⟨_, HRG2.out, fun kl h => HLH.out kl (by simp only [Bool.and_eq_true] at h; exact h.1), HALL3.out, HB2.out⟩
end Go.Proofs.YtmmakljmikdooaaDoor
