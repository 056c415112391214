/- Chapter 12: the program's sorted: loops numbered along their yarns. -/
import Derived.Test.YtaacfjeddoekfaaFabWalk1
namespace Go.Proofs.Ytaacfjeddoekfaa
open Go.RowKit
set_option linter.unusedVariables false
set_option linter.unusedSimpArgs false

theorem keyC_cars (ls : List Lop) (x : Int) : keyC ls x = (cars ls).getD x.toNat 0 := (cars_get ls x.toNat).symm
/-- an order of n things by a key, those of one key as they were -/
theorem sortF_own {base n : Nat} {v cv : Value} {ls : List Lop} (w : World) (h : w.ownsRow base 3 1 v n (fRow (fun k => (k : Int)) n)) (hn : n = ls.length) (hn2 : n ≤ 1000000) (hC : Cmp w base n cv (keyC ls)) :
    Calls Try.prog 54 #[v, cv] w fun e w' => e = .returned (.tuple #[]) ∧ w'.ownsRow base 3 1 v n (fRow (fun k => (inv (cars ls) k : Int)) n) ∧ w.grownBy w' v.ownBlock := by
  have h0 := h
  subst hn
  rcases h.2 with ⟨rfl, h1⟩ | ⟨g, cap, cur, rfl, hbase, hb, h1, h2, h3, h4⟩
  · refine (sort_none w cv).mono ?_
    rintro e w' ⟨rfl, rfl⟩
    rw [h1] at h0 ⊢
    exact ⟨rfl, h0, ⟨rfl, rfl, rfl, Nat.le_refl _, fun _ _ _ => rfl⟩⟩
  · refine (sort_any w (g := g) (cap := cap) (f := fun k => (k : Int)) h0 hC (Below.refl _ _) (by omega) (fun _ _ => rfl)).mono ?_
    rintro e w' ⟨rfl, f, hs, hr, hd⟩
    obtain ⟨σ, τ, s1, s2, s3, s4⟩ := hr
    have hl : (cars ls).length = ls.length := cars_len ls
    have lt1 : ∀ k, k < ls.length → σ k < ls.length := fun k hk => by
      refine Nat.lt_of_not_le fun c => ?_
      have e1 := s3 (σ k) (.inr c)
      have e2 := congrArg τ e1
      rw [s2, s2] at e2
      omega
    have lt2 : ∀ k, k < ls.length → τ k < ls.length := fun k hk => by
      refine Nat.lt_of_not_le fun c => ?_
      have e1 := s3 (τ k) (.inr c)
      rw [s1] at e1
      omega
    refine ⟨rfl, ?_, hs.1⟩
    have he : ∀ k, k < ls.length → f k = (inv (cars ls) k : Int) := fun k hk => by
      have hm : num (cars ls) (σ k) = k := num_sorted s1 s2 (by rw [hl]; exact lt1) (by rw [hl]; exact lt2) (fun s t hst ht => by
        rw [hl] at ht
        have := hd s t (Nat.zero_le _) hst ht
        rw [ahead_iff]
        unfold ltK at this
        rw [keyC_cars, keyC_cars, s4, s4] at this
        simp only [Int.toNat_natCast] at this
        omega) (by rw [hl]; exact hk)
      rw [s4, inv_eq (by rw [hl]; exact lt1 k hk) hm]
    exact IR.congr hs.2.2 he

set_option maxRecDepth 100000 in
set_option maxHeartbeats 2000000 in
theorem sorted_any {S : Nat → Prop} {kv : Value} {k : Kn} (w : World) (hk : KnR w S kv k) (hS : ∀ b, S b → b < w.heap.size) (hn : k.loops.length ≤ 4096) (hcar : ∀ l ∈ k.loops, 0 ≤ l.car ∧ l.car ≤ 7) :
    Calls Try.prog 33 #[kv] w fun e w' => ∃ u v, e = .returned (.tuple #[u, v]) ∧ Ints w' (fun b => w.heap.size ≤ b ∧ b < w'.heap.size) u ((List.range k.loops.length).map fun t => (inv (cars k.loops) t : Int)) ∧
      Ints w' (fun b => w.heap.size ≤ b ∧ b < w'.heap.size) v ((List.range k.loops.length).map fun x => (num (cars k.loops) x : Int)) ∧ Below w.heap.size w w' := by
  obtain ⟨vl, vf, vb, vo, rfl, hl', hf', hb', ho'⟩ := hk
  have HL := Lib.hid hl'
  have HSB := Lib.hid hS
  have HCAR := Lib.hid hcar
  obtain ⟨Aq, cq, tq, rfl, _⟩ := hl'
  obtain ⟨Af, cf, tf, rfl, _⟩ := hf'
  obtain ⟨Ab, cb, tb, rfl, _⟩ := hb'
  obtain ⟨Ap, cp, rfl, _⟩ := ho'
  clear hS hcar
  generalize hls : k.loops = ls at *
  have HX0 := Lib.hid (Arr.new w #[.slice Aq ls.length cq, .slice Af k.front.length cf, .slice Ab k.back.length cb, .slice Ap k.loose.length cp, .int .i64 k.rack] 27)
  have HB0 : Hid (Below w.heap.size w (w.alloc (.cells #[.slice Aq ls.length cq, .slice Af k.front.length cf, .slice Ab k.back.length cb, .slice Ap k.loose.length cp, .int .i64 k.rack] 27))) := (Below.refl _ _).alloc (Nat.le_refl _) _
  have HZ0 : Hid ((w.alloc (.cells #[.slice Aq ls.length cq, .slice Af k.front.length cf, .slice Ab k.back.length cb, .slice Ap k.loose.length cp, .int .i64 k.rack] 27)).heap.size = w.heap.size + 1) := by show _ = _; simp
  have mk1 := fun w => run_mk T25 ls.length ls.length (Nat.le_refl _) (by omega) w
  go_enter Try.func33, Try.ntmps33
  go_upto_region 1 with fail
  generalize w.alloc (.cells #[.slice Aq ls.length cq, .slice Af k.front.length cf, .slice Ab k.back.length cb, .slice Ap k.loose.length cp, .int .i64 k.rack] 27) = w0 at *
  have x0 := HX0.out.cell (k := 0) rfl
  go_wp2_with fail
  clear x0
  go_loopg [2, 10] ls.length (fun gg out ctr wr => ∃ i : Nat, i ≤ ls.length ∧ gg = ls.length - i ∧ ctr = .int .i64 i ∧ wr.ownsRow (w.heap.size + 1) 3 1 out i (fRow (fun k => (k : Int)) i) ∧ Below (w.heap.size + 1) w0 wr)
  case atStart => exact ⟨0, by omega, rfl, rfl, World.ownsRow_nil _ _ _ _, Below.refl _ _⟩
  case round =>
    obtain ⟨i, hi, rfl, rfl, ho, hb⟩ := hrel
    have HO := Lib.hid ho
    have HB := Lib.hid hb
    clear hb
    by_cases hlt : i < ls.length
    case pos =>
      have HN : Hid (fRow (fun k => (k : Int)) (i + 1) = fRow (fun k => (k : Int)) i ++ [.int .i64 (i : Int)]) := by
        show _ = _
        unfold fRow
        rw [List.range_succ, List.map_append]; rfl
      clear ho
      go_wp2_with (at_builtin
                   refine app_el T25 [.int .i64 (i : Int)] HO.out HB.out (by rw [HZ0.out]; omega) rfl rfl rfl rfl rfl ?_ ?_ ?_
                   rotate_right
                   intro v1 w1 hown1 hb1 hg1 ho1
                   have HF := Lib.hid (And.intro hown1 hb1)
                   clear hown1 hb1 hg1 ho1)
      case refine_1 => simp [Value.oneCell']
      case refine_2 => omega
      go_roundg (ls.length - (i + 1))
      case measure => omega
      case rel => exact ⟨i + 1, by omega, rfl, by go_num, by rw [HN.out]; exact HF.out.1, HF.out.2⟩
    obtain rfl : i = ls.length := by omega
    have HX1 := Lib.hid (HX0.out.of_eq (HB.out.block _ (by omega)))
    have hszr := HB.out.size
    rw [HZ0.out] at hszr
    have HLr : Hid (LoopsRd wr (fun b => b < w.heap.size + 1) (.slice Aq ls.length cq) ls) := ((HL.out.same fun b hb => HB0.out.block b (HSB.out b hb)).same fun b hb => HB.out.block b (by have := HSB.out b hb; omega)).mono fun b hb => by have := HSB.out b hb; show b < w.heap.size + 1; omega
    have HC : Hid (Cmp wr (w.heap.size + 1) ls.length (.func (.func 55) #[] #[.pointer (some ⟨w.heap.size, 0, none⟩)]) (keyC ls)) :=
      cmp_cars HLr.out (HX1.out.cell (k := 0) rfl) (by omega) hszr HCAR.out
    obtain ⟨Ao, co, rfl, _, _⟩ := own_form ho
    clear ho
    go_wp2_with fail
    refine (sortF_own _ HO.out rfl (by omega) HC.out).mono ?_
    rintro e w3 ⟨rfl, ho3, hg3⟩
    have HO3 := Lib.hid ho3
    have HB3 : Hid (Below (w.heap.size + 1) w0 w3) := below_owned HB.out HO.out hg3 (by rw [HZ0.out]; omega)
    have hsz3 := HB3.out.size
    rw [HZ0.out] at hsz3
    obtain ⟨Ao', co', e, _, _⟩ := own_form ho3
    cases e
    clear ho3 hg3
    have HI0 := Lib.hid (IR_new w3 ls.length (by unfold maxLen; omega))
    have HF0 : Hid (Below w3.heap.size w3 (w3.alloc (.cells (madeCells #[.int .i64 0] ls.length) 3))) := (Below.refl _ _).alloc (Nat.le_refl _) _
    go_wp2_with fail
    go_loopg [26] ls.length (fun gg ctr wr => ∃ i : Nat, i ≤ ls.length ∧ gg = ls.length - i ∧ ctr = .int .i64 i ∧ Below w3.heap.size w3 wr ∧ IR wr w3.heap.size w3.heap.size ls.length ls.length (fun x => if num (cars ls) x < i then (num (cars ls) x : Int) else 0))
    case atStart => exact ⟨0, by omega, rfl, rfl, HF0.out, HI0.out.congr fun k _ => by simp⟩
    case round =>
      clear HF0 HI0
      obtain ⟨i, hi, rfl, rfl, hb4, hir⟩ := hrel
      have HB4 := Lib.hid hb4
      have HI := Lib.hid hir
      clear hb4 hir
      by_cases hlt : i < ls.length
      case neg =>
        obtain rfl : i = ls.length := by omega
        have HI' : Hid (IR wr w3.heap.size w3.heap.size ls.length ls.length (fun x => (num (cars ls) x : Int))) := HI.out.congr fun k hk => by
          rw [if_pos]
          have := num_lt (cs := cars ls) (x := k) (by rw [cars_len]; exact hk)
          rw [cars_len] at this
          exact this
        have HOr := Lib.hid (own_below HO3.out HB4.out (Nat.le_refl _))
        go_wp2_with fail
        go_ret2
        refine ⟨_, _, rfl, ?_, ?_, ?_⟩
        · rw [← ints_fRow] at HOr
          exact (Ints.of_own HOr.out).mono fun b hb => ⟨by omega, hb.2⟩
        · exact HI'.out.ints.mono fun b hb => ⟨by omega, hb.2⟩
        · exact (HB0.out.trans (HB3.out.mono (by omega))).trans (HB4.out.mono (by omega))
      have hlc : (cars ls).length = ls.length := cars_len ls
      obtain ⟨v1, v2⟩ := inv_spec (cs := cars ls) (t := i) (by omega)
      rw [hlc] at v1
      have HOr := Lib.hid (own_below HO3.out HB4.out (Nat.le_refl _))
      have HOI := HOr.out
      rw [← ints_fRow] at HOI
      obtain ⟨A', c', e, _, _, hr⟩ := Ints.of_own HOI
      rw [List.length_map, List.length_range] at e
      cases e
      obtain ⟨b, o, e, _, y0⟩ := ints_cell hr (k := i) (by rw [List.length_map, List.length_range]; exact hlt)
      cases e
      have e3 : ((List.range ls.length).map fun t => (inv (cars ls) t : Int))[i]'(by rw [List.length_map, List.length_range]; exact hlt) = (inv (cars ls) i : Int) := by simp
      rw [e3] at y0
      clear hr HOI e3
      have HN : Hid (IR (wr.setCell ⟨w3.heap.size, inv (cars ls) i, none⟩ (.int .i64 (i : Int))) w3.heap.size w3.heap.size ls.length ls.length (fun x => if num (cars ls) x < i + 1 then (num (cars ls) x : Int) else 0)) := (HI.out.set v1 (i : Int)).congr fun k hk => by
        by_cases h : k = inv (cars ls) i
        · subst h; rw [if_pos rfl, v2, if_pos (by omega)]
        · rw [if_neg h]
          have hne : num (cars ls) k ≠ i := fun e => h (inv_eq (by rw [hlc]; exact hk) e).symm
          by_cases h2 : num (cars ls) k < i
          · rw [if_pos h2, if_pos (by omega)]
          · rw [if_neg h2, if_neg (by omega)]
      have z0 := HI.out.free (inv (cars ls) i)
      have z1 := HI.out.cell v1
      have HBN := Lib.hid (HB4.out.setCell (p := ⟨w3.heap.size, inv (cars ls) i, none⟩) (Nat.le_refl _) (.int .i64 (i : Int)))
      generalize inv (cars ls) i = m at *
      generalize (if num (cars ls) m < i then (num (cars ls) m : Int) else 0) = old at *
      clear v2
      go_wp2_with fail
      go_roundg (ls.length - (i + 1))
      case measure => omega
      case rel => exact ⟨i + 1, by omega, rfl, by go_num, HBN.out, HN.out⟩
end Go.Proofs.Ytaacfjeddoekfaa
