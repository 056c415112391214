/- Chapter 15: the reference's Nearest of fair dyes. -/
import Derived.Test.YtmjhhaejiabkdaaNearWalk2
import Derived.Test.YtmjhhaejiabkdaaSeq
namespace Go.Proofs.Ytmjhhaejiabkdaa
open Go.RowKit Go.Proofs.Ytmjhhaejiabkdaa.Fl
set_option linter.unusedVariables false
attribute [local go_sem] run_put_float

theorem Far_at {a b : Dy} {n : Nat} (h : FarIs a b n) (w : World) : Calls Try.prog 13 #[.agg #[.float .f64 a.r, .float .f64 a.g, .float .f64 a.b], .agg #[.float .f64 b.r, .float .f64 b.g, .float .f64 b.b]] w
    fun e w' => e = .returned (.float .f64 n) ∧ Below w.heap.size w w' := Far_is h w

set_option maxRecDepth 100000 in
set_option maxHeartbeats 4000000 in
theorem refNearest_ok {v : Value} {xs : List Dy} (d : Dy) (w : World) (hv : Dyes w (fun b => b < w.heap.size) v xs) (h1 : 1 ≤ xs.length) (h2 : xs.length ≤ 256) (hd : d.fair = true) (hbad : ∀ i (h : i < xs.length), xs[i].fair = true)
    {f : Nat → Nat} (hfar : ∀ k (h : k < xs.length), FarIs xs[k] d (f k) ∧ FW (f k)) {bb : Nat} (hbest : Best f xs.length bb) :
    Calls Try.prog 16 #[v, d.val] w fun e w' => e = .returned (.tuple #[.int .i64 bb, .int .i64 0]) ∧ Below w.heap.size w w' := by
  have HV := Lib.hid hv
  have HB := Lib.hid hbad
  have HF := Lib.hid hfar
  have hBest := Lib.hid hbest
  have hbl := hbest.lt
  clear hbad hfar hbest
  obtain ⟨A, c, rfl, h3, h4, hr⟩ := hv
  clear hr
  unfold maxLen at h4
  have hbe : Hid (Below w.heap.size w (w.alloc (.cells #[.float .f64 d.r, .float .f64 d.g, .float .f64 d.b] 33))) := (Below.refl _ _).alloc (Nat.le_refl _) _
  unfold Dy.val
  go_enter Try.func16, Try.ntmps16
  go_wp2_with fail
  refine (Fair_any d _).mono ?_
  rintro e w1 ⟨rfl, hb1⟩
  rw [World.size_alloc] at hb1
  have HB1 := Lib.hid hb1
  have HT : Hid (∀ w', Below (w.heap.size + 1) (w.alloc (.cells #[.float .f64 d.r, .float .f64 d.g, .float .f64 d.b] 33)) w' → Below w.heap.size w w' ∧ w.heap.size < w'.heap.size) := fun w' h => ⟨hbe.out.trans (h.mono (by omega)), by have := h.size; rw [World.size_alloc] at this; omega⟩
  clear hb1
  go_wp2_with fail
  go_loopg [26] xs.length (fun g ctr w2 => ∃ j : Nat, j ≤ xs.length ∧ g = xs.length - j ∧ ctr = .int .i64 j ∧ Below (w.heap.size + 1) (w.alloc (.cells #[.float .f64 d.r, .float .f64 d.g, .float .f64 d.b] 33)) w2)
  case atStart => exact ⟨0, by omega, rfl, rfl, HB1.out⟩
  case round =>
    clear HB1
    obtain ⟨j, hj, rfl, rfl, hb2⟩ := hrel
    by_cases hjl : j < xs.length
    case pos =>
      obtain ⟨b1, o1, rfl, _, x0, x1, x2⟩ := dy_cells (hrow_of (HV.out.same (Same.of_below (HT.out _ hb2).1))) hjl
      have HX : Hid (xs[j].fair = true) := HB.out j hjl
      generalize xs[j] = x at *
      have HB2 := Lib.hid hb2
      clear hb2
      go_wp2_with fail
      refine (Fair_any x _).mono ?_
      rintro e w3 ⟨rfl, hb3⟩
      have HB3 := Lib.hid ((HB2.out.alloc (HT.out _ HB2.out).2 (.cells #[.float .f64 x.r, .float .f64 x.g, .float .f64 x.b] 33)).trans (hb3.mono (by have := HB2.out.size; simp at this ⊢; omega)))
      have hfx := HX.out
      clear hb3 x0 x1 x2
      go_wp2_with fail
      go_roundg (xs.length - (j + 1))
      case measure => omega
      case rel => exact ⟨j + 1, by omega, rfl, by go_num, HB3.out⟩
    obtain rfl : j = xs.length := by omega
    clear hj hjl
    go_wp2_with fail
    go_loopg [36] xs.length (fun g ctr w2 => ∃ i : Nat, i ≤ bb ∧ g = xs.length - i ∧ ctr = .int .i64 i ∧ Below (w.heap.size + 1) (w.alloc (.cells #[.float .f64 d.r, .float .f64 d.g, .float .f64 d.b] 33)) w2)
    case atStart => exact ⟨0, by omega, rfl, rfl, hb2⟩
    case round =>
      clear hb2
      obtain ⟨i, hib, rfl, rfl, hbx⟩ := hrel
      have hil : i < xs.length := by omega
      obtain ⟨wx, rfl⟩ : ∃ wx : World, wx = wr := ⟨_, rfl⟩
      obtain ⟨b1, o1, rfl, _, x0, x1, x2⟩ := dy_cells (hrow_of (HV.out.same (Same.of_below (HT.out _ hbx).1))) hil
      have HFi := Lib.hid (HF.out i hil)
      have HBX := Lib.hid hbx
      clear hbx
      generalize xs[i] = x at *
      have hXb : Hid (Below (w.heap.size + 1) (w.alloc (.cells #[.float .f64 d.r, .float .f64 d.g, .float .f64 d.b] 33)) (wx.alloc (.cells #[.float .f64 x.r, .float .f64 x.g, .float .f64 x.b] 33)) ∧
          Arr (wx.alloc (.cells #[.float .f64 x.r, .float .f64 x.g, .float .f64 x.b] 33)) wx.heap.size 33 [.float .f64 x.r, .float .f64 x.g, .float .f64 x.b]) := ⟨HBX.out.alloc (HT.out _ HBX.out).2 _, Arr.new wx _ 33⟩
      go_wp2_with fail
      clear x0 x1 x2
      go_loopg [10, 43] xs.length (fun g sf ctr w2 => ∃ k : Nat, ∃ fl : Bool, k ≤ xs.length ∧ g = xs.length - k ∧ sf = .bool fl ∧ ctr = .int .i64 k ∧ (i = bb → fl = true) ∧ (i < bb → bb < k → fl = false) ∧ Below (wx.heap.size + 1) (wx.alloc (.cells #[.float .f64 x.r, .float .f64 x.g, .float .f64 x.b] 33)) w2)
      case atStart => exact ⟨0, true, by omega, rfl, rfl, rfl, fun _ => rfl, fun _ h => absurd h (by omega), Below.refl _ _⟩
      case round =>
        obtain ⟨k, fl, hk, rfl, rfl, rfl, u1, u2, hbk⟩ := hrel
        have U1 := Lib.hid u1
        have U2 := Lib.hid u2
        clear u1 u2
        have HBK : Hid (Below (w.heap.size + 1) (w.alloc (.cells #[.float .f64 d.r, .float .f64 d.g, .float .f64 d.b] 33)) wr) := hXb.out.1.trans (hbk.mono (by have := HBX.out.size; simp at this; omega))
        by_cases hkl : k < xs.length
        case neg =>
          obtain rfl : k = xs.length := by omega
          by_cases hi : i = bb
          · obtain rfl := U1.out hi
            obtain rfl := hi
            go_wp2_with fail
            go_ret2
            exact ⟨rfl, (HT.out _ HBK.out).1⟩
          · obtain rfl := U2.out (by omega) hbl
            go_wp2_with fail
            go_roundg (xs.length - (i + 1))
            case measure => omega
            case rel => exact ⟨i + 1, by omega, rfl, by go_num, HBK.out⟩
        obtain ⟨b2, o2, e2, _, y0, y1, y2⟩ := dy_cells (hrow_of (HV.out.same (Same.of_below (HT.out _ HBK.out).1))) hkl
        cases e2
        have HFk := Lib.hid (HF.out k hkl)
        generalize xs[k] = y at *
        have hwx : wx.heap.size < wr.heap.size := by have := hbk.size; simp at this; omega
        have hww : w.heap.size < wr.heap.size := (HT.out _ HBK.out).2
        have HA : Hid (Below (wx.heap.size + 1) (wx.alloc (.cells #[.float .f64 x.r, .float .f64 x.g, .float .f64 x.b] 33)) (wr.alloc (.cells #[.float .f64 y.r, .float .f64 y.g, .float .f64 y.b] 33))) := hbk.alloc hwx _
        have HS : Hid (∀ w', Below (wr.alloc (.cells #[.float .f64 y.r, .float .f64 y.g, .float .f64 y.b] 33)).heap.size (wr.alloc (.cells #[.float .f64 y.r, .float .f64 y.g, .float .f64 y.b] 33)) w' → (Below (wr.alloc (.cells #[.float .f64 y.r, .float .f64 y.g, .float .f64 y.b] 33)).heap.size (wr.alloc (.cells #[.float .f64 y.r, .float .f64 y.g, .float .f64 y.b] 33)) w' ∧
            w'.cell? ⟨wr.heap.size, 0, none⟩ = some (.float .f64 y.r) ∧ w'.cell? ⟨wr.heap.size, 1, none⟩ = some (.float .f64 y.g) ∧ w'.cell? ⟨wr.heap.size, 2, none⟩ = some (.float .f64 y.b) ∧
            w'.cell? ⟨wx.heap.size, 0, none⟩ = some (.float .f64 x.r) ∧ w'.cell? ⟨wx.heap.size, 1, none⟩ = some (.float .f64 x.g) ∧ w'.cell? ⟨wx.heap.size, 2, none⟩ = some (.float .f64 x.b) ∧
            w'.cell? ⟨w.heap.size, 0, none⟩ = some (.float .f64 d.r) ∧ w'.cell? ⟨w.heap.size, 1, none⟩ = some (.float .f64 d.g) ∧ w'.cell? ⟨w.heap.size, 2, none⟩ = some (.float .f64 d.b))) := fun w' h => by
          have hY := (Arr.new wr #[.float .f64 y.r, .float .f64 y.g, .float .f64 y.b] 33).of_eq (h.block wr.heap.size (by simp))
          have hX := (hXb.out.2.of_eq (hbk.block wx.heap.size (by omega))).of_eq ((h.block wx.heap.size (by simp; omega)).trans (Below.heap_alloc wr _ _ hwx))
          have hD := (box_cells HBK.out).of_eq ((h.block w.heap.size (by simp; omega)).trans (Below.heap_alloc wr _ _ hww))
          exact ⟨h, hY.cell (k := 0) rfl, hY.cell (k := 1) rfl, hY.cell (k := 2) rfl, hX.cell (k := 0) rfl, hX.cell (k := 1) rfl, hX.cell (k := 2) rfl, hD.cell (k := 0) rfl, hD.cell (k := 1) rfl, hD.cell (k := 2) rfl⟩
        clear hbk
        have hcs : (k < i ∧ V (f k) ≤ V (f i)) ∨ (k < i ∧ ¬ V (f k) ≤ V (f i)) ∨ (¬ k < i ∧ V (f k) < V (f i)) ∨ (¬ k < i ∧ ¬ V (f k) < V (f i)) := by omega
        have hst : Hid (Below (wr.alloc (.cells #[.float .f64 y.r, .float .f64 y.g, .float .f64 y.b] 33)).heap.size (wr.alloc (.cells #[.float .f64 y.r, .float .f64 y.g, .float .f64 y.b] 33)) (wr.alloc (.cells #[.float .f64 y.r, .float .f64 y.g, .float .f64 y.b] 33))) := Below.refl _ _
        rcases hcs with ⟨hki, hv⟩ | ⟨hki, hv⟩ | ⟨hki, hv⟩ | ⟨hki, hv⟩
        · have hki' : decide (k < i) = true := by simpa using hki
          have hle : (FloatKind.f64.format.order (f k) (f i) == some .lt || FloatKind.f64.format.order (f k) (f i) == some .eq) = true := by have h := leq_spec HFk.out.2 HFi.out.2; rw [decide_eq_true hv] at h; exact h
          have HN : Hid (i ≠ bb) := fun h => by subst h; have := hBest.out.first k hki; omega
          clear hki hv
          go_wp2_with fail
          clear y0 y1 y2
          refine wp_region_seq (fun w' => Below (wr.alloc (.cells #[.float .f64 y.r, .float .f64 y.g, .float .f64 y.b] 33)).heap.size (wr.alloc (.cells #[.float .f64 y.r, .float .f64 y.g, .float .f64 y.b] 33)) w' ∧
              w'.cell? ⟨wr.heap.size, 0, none⟩ = some (.float .f64 y.r) ∧ w'.cell? ⟨wr.heap.size, 1, none⟩ = some (.float .f64 y.g) ∧ w'.cell? ⟨wr.heap.size, 2, none⟩ = some (.float .f64 y.b) ∧
              w'.cell? ⟨wx.heap.size, 0, none⟩ = some (.float .f64 x.r) ∧ w'.cell? ⟨wx.heap.size, 1, none⟩ = some (.float .f64 x.g) ∧ w'.cell? ⟨wx.heap.size, 2, none⟩ = some (.float .f64 x.b) ∧
              w'.cell? ⟨w.heap.size, 0, none⟩ = some (.float .f64 d.r) ∧ w'.cell? ⟨w.heap.size, 1, none⟩ = some (.float .f64 d.g) ∧ w'.cell? ⟨w.heap.size, 2, none⟩ = some (.float .f64 d.b))
            (by kernel_rfl) (by kernel_rfl) (HS.out _ (nb_drew hst.out)) ?_
          show Seq _ _ _ _ [_, _, _, _, _, _, _, _, _, _, _, _, _, _, _, _, _, _, _, _, _] _
          repeat (first
            | (refine seq_skip (by rfl) ?_; (try simp only [Act.put, List.setIfInBounds_toArray, List.set_cons_zero, List.set_cons_succ]))
            | (refine seq_val ?_ (by rfl) ?_ ?_
               rotate_left 1
               · intro w5 hS5; go_simp; first | done | with_reducible rfl
               (try simp only [Act.put, List.setIfInBounds_toArray, List.set_cons_zero, List.set_cons_succ]))
            | (refine seq_call ?_ ?_ ?_ (by rfl) ?_ ?_ ?_
               rotate_left 3
               · intro w5 hS5; go_simp; (refine And.intro ?_ ?_ <;> rfl)
               · intro w5 hS5
                 first
                   | ((with_reducible refine (Far_at HFk.out.1 _).mono ?_); rintro e w6 ⟨rfl, hb6⟩; refine And.intro ?_ (HS.out _ (nb_next hb6 hS5.1)); rfl)
                   | ((with_reducible refine (Far_at HFi.out.1 _).mono ?_); rintro e w6 ⟨rfl, hb6⟩; refine And.intro ?_ (HS.out _ (nb_next hb6 hS5.1)); rfl)
               (try simp only [Act.put, List.setIfInBounds_toArray, List.set_cons_zero, List.set_cons_succ])))
          refine seq_end ?_
          intro w6 hS6
          obtain ⟨hf6, y0, y1, y2, x0, x1, x2, d0, d1, d2⟩ := hS6
          clear y0 y1 y2 x0 x1 x2 d0 d1 d2
          have HB5 := Lib.hid (HA.out.trans (hf6.mono (by have := hwx; simp; omega)))
          clear hf6
          go_wp2_with fail
          go_roundg (xs.length - (k + 1))
          case measure => omega
          case rel => exact ⟨k + 1, false, by omega, rfl, rfl, by go_num, fun h => absurd h HN.out, fun _ _ => rfl, HB5.out⟩
        · have hki' : decide (k < i) = true := by simpa using hki
          have hle : (FloatKind.f64.format.order (f k) (f i) == some .lt || FloatKind.f64.format.order (f k) (f i) == some .eq) = false := by have h := leq_spec HFk.out.2 HFi.out.2; rw [decide_eq_false hv] at h; exact h
          have hlt : (FloatKind.f64.format.order (f k) (f i) == some .lt) = false := by have h := lt_spec HFk.out.2 HFi.out.2; rw [decide_eq_false (by omega)] at h; exact h
          have heq := (Bool.or_eq_false_iff.1 hle).2
          clear hle
          have HN : Hid (i < bb → bb < k + 1 → bb < k) := fun _ _ => by omega
          clear hki hv
          go_wp2_with fail
          clear y0 y1 y2
          refine wp_region_seq (fun w' => Below (wr.alloc (.cells #[.float .f64 y.r, .float .f64 y.g, .float .f64 y.b] 33)).heap.size (wr.alloc (.cells #[.float .f64 y.r, .float .f64 y.g, .float .f64 y.b] 33)) w' ∧
              w'.cell? ⟨wr.heap.size, 0, none⟩ = some (.float .f64 y.r) ∧ w'.cell? ⟨wr.heap.size, 1, none⟩ = some (.float .f64 y.g) ∧ w'.cell? ⟨wr.heap.size, 2, none⟩ = some (.float .f64 y.b) ∧
              w'.cell? ⟨wx.heap.size, 0, none⟩ = some (.float .f64 x.r) ∧ w'.cell? ⟨wx.heap.size, 1, none⟩ = some (.float .f64 x.g) ∧ w'.cell? ⟨wx.heap.size, 2, none⟩ = some (.float .f64 x.b) ∧
              w'.cell? ⟨w.heap.size, 0, none⟩ = some (.float .f64 d.r) ∧ w'.cell? ⟨w.heap.size, 1, none⟩ = some (.float .f64 d.g) ∧ w'.cell? ⟨w.heap.size, 2, none⟩ = some (.float .f64 d.b))
            (by kernel_rfl) (by kernel_rfl) (HS.out _ (nb_drew hst.out)) ?_
          show Seq _ _ _ _ [_, _, _, _, _, _, _, _, _, _, _, _, _, _, _, _, _, _, _, _, _] _
          repeat (first
            | (refine seq_skip (by rfl) ?_; (try simp only [Act.put, List.setIfInBounds_toArray, List.set_cons_zero, List.set_cons_succ]))
            | (refine seq_val ?_ (by rfl) ?_ ?_
               rotate_left 1
               · intro w5 hS5; go_simp; first | done | with_reducible rfl
               (try simp only [Act.put, List.setIfInBounds_toArray, List.set_cons_zero, List.set_cons_succ]))
            | (refine seq_call ?_ ?_ ?_ (by rfl) ?_ ?_ ?_
               rotate_left 3
               · intro w5 hS5; go_simp; (refine And.intro ?_ ?_ <;> rfl)
               · intro w5 hS5
                 first
                   | ((with_reducible refine (Far_at HFk.out.1 _).mono ?_); rintro e w6 ⟨rfl, hb6⟩; refine And.intro ?_ (HS.out _ (nb_next hb6 hS5.1)); rfl)
                   | ((with_reducible refine (Far_at HFi.out.1 _).mono ?_); rintro e w6 ⟨rfl, hb6⟩; refine And.intro ?_ (HS.out _ (nb_next hb6 hS5.1)); rfl)
               (try simp only [Act.put, List.setIfInBounds_toArray, List.set_cons_zero, List.set_cons_succ])))
          refine seq_end ?_
          intro w6 hS6
          obtain ⟨hf6, y0, y1, y2, x0, x1, x2, d0, d1, d2⟩ := hS6
          clear y0 y1 y2 x0 x1 x2 d0 d1 d2
          have HB5 := Lib.hid (HA.out.trans (hf6.mono (by have := hwx; simp; omega)))
          clear hf6
          go_wp2_with fail
          go_roundg (xs.length - (k + 1))
          case measure => omega
          case rel => exact ⟨k + 1, fl, by omega, rfl, rfl, by go_num, U1.out, fun h1 h2 => U2.out h1 (HN.out h1 h2), HB5.out⟩
        · have hki' : decide (k < i) = false := by simpa using hki
          have hlt : (FloatKind.f64.format.order (f k) (f i) == some .lt) = true := by have h := lt_spec HFk.out.2 HFi.out.2; rw [decide_eq_true hv] at h; exact h
          have HN : Hid (i ≠ bb) := fun h => by subst h; have := hBest.out.le k hkl; omega
          clear hki hv
          go_wp2_with fail
          clear y0 y1 y2
          refine wp_region_seq (fun w' => Below (wr.alloc (.cells #[.float .f64 y.r, .float .f64 y.g, .float .f64 y.b] 33)).heap.size (wr.alloc (.cells #[.float .f64 y.r, .float .f64 y.g, .float .f64 y.b] 33)) w' ∧
              w'.cell? ⟨wr.heap.size, 0, none⟩ = some (.float .f64 y.r) ∧ w'.cell? ⟨wr.heap.size, 1, none⟩ = some (.float .f64 y.g) ∧ w'.cell? ⟨wr.heap.size, 2, none⟩ = some (.float .f64 y.b) ∧
              w'.cell? ⟨wx.heap.size, 0, none⟩ = some (.float .f64 x.r) ∧ w'.cell? ⟨wx.heap.size, 1, none⟩ = some (.float .f64 x.g) ∧ w'.cell? ⟨wx.heap.size, 2, none⟩ = some (.float .f64 x.b) ∧
              w'.cell? ⟨w.heap.size, 0, none⟩ = some (.float .f64 d.r) ∧ w'.cell? ⟨w.heap.size, 1, none⟩ = some (.float .f64 d.g) ∧ w'.cell? ⟨w.heap.size, 2, none⟩ = some (.float .f64 d.b))
            (by kernel_rfl) (by kernel_rfl) (HS.out _ (nb_drew hst.out)) ?_
          show Seq _ _ _ _ [_, _, _, _, _, _, _, _, _, _, _, _, _, _, _, _, _, _, _, _, _] _
          repeat (first
            | (refine seq_skip (by rfl) ?_; (try simp only [Act.put, List.setIfInBounds_toArray, List.set_cons_zero, List.set_cons_succ]))
            | (refine seq_val ?_ (by rfl) ?_ ?_
               rotate_left 1
               · intro w5 hS5; go_simp; first | done | with_reducible rfl
               (try simp only [Act.put, List.setIfInBounds_toArray, List.set_cons_zero, List.set_cons_succ]))
            | (refine seq_call ?_ ?_ ?_ (by rfl) ?_ ?_ ?_
               rotate_left 3
               · intro w5 hS5; go_simp; (refine And.intro ?_ ?_ <;> rfl)
               · intro w5 hS5
                 first
                   | ((with_reducible refine (Far_at HFk.out.1 _).mono ?_); rintro e w6 ⟨rfl, hb6⟩; refine And.intro ?_ (HS.out _ (nb_next hb6 hS5.1)); rfl)
                   | ((with_reducible refine (Far_at HFi.out.1 _).mono ?_); rintro e w6 ⟨rfl, hb6⟩; refine And.intro ?_ (HS.out _ (nb_next hb6 hS5.1)); rfl)
               (try simp only [Act.put, List.setIfInBounds_toArray, List.set_cons_zero, List.set_cons_succ])))
          refine seq_end ?_
          intro w6 hS6
          obtain ⟨hf6, y0, y1, y2, x0, x1, x2, d0, d1, d2⟩ := hS6
          clear y0 y1 y2 x0 x1 x2 d0 d1 d2
          have HB5 := Lib.hid (HA.out.trans (hf6.mono (by have := hwx; simp; omega)))
          clear hf6
          go_wp2_with fail
          go_roundg (xs.length - (k + 1))
          case measure => omega
          case rel => exact ⟨k + 1, false, by omega, rfl, rfl, by go_num, fun h => absurd h HN.out, fun _ _ => rfl, HB5.out⟩
        · have hki' : decide (k < i) = false := by simpa using hki
          have hlt : (FloatKind.f64.format.order (f k) (f i) == some .lt) = false := by have h := lt_spec HFk.out.2 HFi.out.2; rw [decide_eq_false hv] at h; exact h
          have HN : Hid (i < bb → bb < k + 1 → bb < k) := fun h1 h2 => by
            rcases Nat.lt_or_eq_of_le (Nat.le_of_lt_succ h2) with h | h
            · exact h
            · subst h; exact absurd (hBest.out.first i h1) hv
          clear hki hv
          go_wp2_with fail
          clear y0 y1 y2
          refine wp_region_seq (fun w' => Below (wr.alloc (.cells #[.float .f64 y.r, .float .f64 y.g, .float .f64 y.b] 33)).heap.size (wr.alloc (.cells #[.float .f64 y.r, .float .f64 y.g, .float .f64 y.b] 33)) w' ∧
              w'.cell? ⟨wr.heap.size, 0, none⟩ = some (.float .f64 y.r) ∧ w'.cell? ⟨wr.heap.size, 1, none⟩ = some (.float .f64 y.g) ∧ w'.cell? ⟨wr.heap.size, 2, none⟩ = some (.float .f64 y.b) ∧
              w'.cell? ⟨wx.heap.size, 0, none⟩ = some (.float .f64 x.r) ∧ w'.cell? ⟨wx.heap.size, 1, none⟩ = some (.float .f64 x.g) ∧ w'.cell? ⟨wx.heap.size, 2, none⟩ = some (.float .f64 x.b) ∧
              w'.cell? ⟨w.heap.size, 0, none⟩ = some (.float .f64 d.r) ∧ w'.cell? ⟨w.heap.size, 1, none⟩ = some (.float .f64 d.g) ∧ w'.cell? ⟨w.heap.size, 2, none⟩ = some (.float .f64 d.b))
            (by kernel_rfl) (by kernel_rfl) (HS.out _ (nb_drew hst.out)) ?_
          show Seq _ _ _ _ [_, _, _, _, _, _, _, _, _, _, _, _, _, _, _, _, _, _, _, _, _] _
          repeat (first
            | (refine seq_skip (by rfl) ?_; (try simp only [Act.put, List.setIfInBounds_toArray, List.set_cons_zero, List.set_cons_succ]))
            | (refine seq_val ?_ (by rfl) ?_ ?_
               rotate_left 1
               · intro w5 hS5; go_simp; first | done | with_reducible rfl
               (try simp only [Act.put, List.setIfInBounds_toArray, List.set_cons_zero, List.set_cons_succ]))
            | (refine seq_call ?_ ?_ ?_ (by rfl) ?_ ?_ ?_
               rotate_left 3
               · intro w5 hS5; go_simp; (refine And.intro ?_ ?_ <;> rfl)
               · intro w5 hS5
                 first
                   | ((with_reducible refine (Far_at HFk.out.1 _).mono ?_); rintro e w6 ⟨rfl, hb6⟩; refine And.intro ?_ (HS.out _ (nb_next hb6 hS5.1)); rfl)
                   | ((with_reducible refine (Far_at HFi.out.1 _).mono ?_); rintro e w6 ⟨rfl, hb6⟩; refine And.intro ?_ (HS.out _ (nb_next hb6 hS5.1)); rfl)
               (try simp only [Act.put, List.setIfInBounds_toArray, List.set_cons_zero, List.set_cons_succ])))
          refine seq_end ?_
          intro w6 hS6
          obtain ⟨hf6, y0, y1, y2, x0, x1, x2, d0, d1, d2⟩ := hS6
          clear y0 y1 y2 x0 x1 x2 d0 d1 d2
          have HB5 := Lib.hid (HA.out.trans (hf6.mono (by have := hwx; simp; omega)))
          clear hf6
          go_wp2_with fail
          go_roundg (xs.length - (k + 1))
          case measure => omega
          case rel => exact ⟨k + 1, fl, by omega, rfl, rfl, by go_num, U1.out, fun h1 h2 => U2.out h1 (HN.out h1 h2), HB5.out⟩
end Go.Proofs.Ytmjhhaejiabkdaa
