import Derived.Test.YtmmakljmikdooaaDoorTwTruthWalk8
/- Chapter 6: the places where a number stands for the first time. -/
namespace Go.Proofs.YtmmakljmikdooaaDoor
open Go.RowKit
set_option linter.unusedVariables false
set_option linter.unusedSimpArgs false

def frF (l : List Nat) : List Nat := l.zipIdx.foldl (fun out p => if p.1 = out.length then out ++ [p.2] else out) []
theorem frF_nil : frF [] = [] := rfl
theorem frF_snoc (l : List Nat) (k : Nat) : frF (l ++ [k]) = if k = (frF l).length then frF l ++ [l.length] else frF l := by
  unfold frF
  rw [List.zipIdx_append, List.foldl_append]
  show (if k = _ then _ else _) = _
  rw [Nat.zero_add]
theorem frF_take {l : List Nat} {i : Nat} (h : i < l.length) : frF (l.take (i + 1)) = if l[i] = (frF (l.take i)).length then frF (l.take i) ++ [i] else frF (l.take i) := by
  rw [List.take_succ_eq_append_getElem h, frF_snoc, List.length_take, Nat.min_eq_left (by omega)]
theorem frF_len (l : List Nat) : ∀ i, (frF (l.take i)).length ≤ i
  | 0 => by simp [frF]
  | i + 1 => by
    by_cases h : i < l.length
    · rw [frF_take h]
      have := frF_len l i
      split <;> simp <;> omega
    · rw [List.take_of_length_le (by omega)]
      have := frF_len l i
      rw [List.take_of_length_le (by omega)] at this
      omega
theorem frF_lt (l : List Nat) : ∀ i, ∀ x ∈ frF (l.take i), x < i ∧ x < l.length
  | 0 => by simp [frF]
  | i + 1 => by
    intro x hx
    by_cases h : i < l.length
    · rw [frF_take h] at hx
      split at hx
      · simp at hx
        rcases hx with hx | rfl
        · have := frF_lt l i x hx; omega
        · omega
      · have := frF_lt l i x hx; omega
    · rw [List.take_of_length_le (by omega)] at hx
      have := frF_lt l i x (by rw [List.take_of_length_le (by omega)]; exact hx)
      omega

set_option maxRecDepth 100000 in
set_option maxHeartbeats 4000000 in
theorem firsts_any {S : Nat → Prop} {v : Value} {l : List Nat} (w : World) (hv : Ints w S v (l.map fun k : Nat => (k : Int))) (hS : ∀ b, S b → b < w.heap.size) (hl : l.length ≤ 4096) :
    Calls Tryd.prog 55 #[v] w fun e w' => ∃ u, e = .returned u ∧ w'.ownsRow w.heap.size 3 1 u (frF l).length (((frF l).map fun k : Nat => (k : Int)).map (Value.int .i64)) ∧ Below w.heap.size w w' := by
  obtain ⟨A, c, rfl, h1, h2, hr⟩ := hv
  have HC : Hid (∀ (j : Nat) (h : j < l.length) (w' : World), Below w.heap.size w w' → ∃ b o, A = some ⟨b, o, none⟩ ∧ w'.cell? ⟨b, o + j, none⟩ = some (.int .i64 (l[j] : Int))) := fun j h w' hb => by
    obtain ⟨b, o, e, hs, hc⟩ := ints_cell hr (k := j) (by simpa using h)
    refine ⟨b, o, e, ?_⟩
    rw [World.cell?_of_block (a := ⟨b, o + j, none⟩) (hb.block b (hS b hs)), hc]
    simp
  rw [List.length_map] at *
  clear hr hS
  have HT : Hid (∀ i (h : i < l.length), frF (l.take (i + 1)) = if l[i] = (frF (l.take i)).length then frF (l.take i) ++ [i] else frF (l.take i)) := fun i h => frF_take h
  have HL : Hid (∀ i, (frF (l.take i)).length ≤ i) := frF_len l
  have HE : Hid (frF (l.take l.length) = frF l) := by show _ = _; rw [List.take_length]
  have H0 : Hid (frF (l.take 0) = []) := rfl
  obtain ⟨fr, hfr⟩ : ∃ fr : Nat → List Nat, ∀ i, frF (l.take i) = fr i := ⟨_, fun _ => rfl⟩
  obtain ⟨R, hR⟩ : ∃ R, frF l = R := ⟨_, rfl⟩
  rw [hR]
  have HT' : Hid (∀ i (h : i < l.length), fr (i + 1) = if l[i] = (fr i).length then fr i ++ [i] else fr i) := fun i h => by rw [← hfr, ← hfr]; exact HT.out i h
  have HL' : Hid (∀ i, (fr i).length ≤ i) := fun i => by rw [← hfr]; exact HL.out i
  have HE' : Hid (fr l.length = R) := by show _ = _; rw [← hfr, ← hR]; exact HE.out
  have H0' : Hid (fr 0 = []) := by show _ = _; rw [← hfr]; exact H0.out
  clear HT HL HE H0 hfr hR
  go_enter Tryd.func55, Tryd.ntmps55
  go_upto_region 3 with fail
  go_loopg [3, 8] l.length (fun gg v ctr wr => ∃ i : Nat, i ≤ l.length ∧ gg = l.length - i ∧ ctr = .int .i64 i ∧ wr.ownsRow w.heap.size 3 1 v (fr i).length (((fr i).map fun k : Nat => (k : Int)).map (Value.int .i64)) ∧ Below w.heap.size w wr)
  case atStart => exact ⟨0, Nat.zero_le _, rfl, rfl, by rw [H0'.out]; exact World.ownsRow_nil _ _ _ _, Below.refl _ _⟩
  case round =>
    obtain ⟨i, hi, rfl, rfl, hown, hb⟩ := hrel
    have HOW := Lib.hid hown
    have HBW := Lib.hid hb
    clear hown hb
    by_cases hlt : i < l.length
    · obtain ⟨b, o, rfl, x0⟩ := HC.out i hlt _ HBW.out
      have HOF := Lib.hid (own_form HOW.out)
      obtain ⟨A0, c0, rfl, _, _⟩ := HOF.out
      have hfl := HL'.out i
      by_cases hk : l[i] = (fr i).length
      · have HN : Hid (fr (i + 1) = fr i ++ [i]) := by show _ = _; rw [HT'.out i hlt, if_pos hk]
        rw [hk] at x0
        go_wp2_with (at_builtin
                     refine app_el T22d [.int .i64 (i : Int)] HOW.out HBW.out (Nat.le_refl _) rfl rfl rfl rfl rfl (by simp [Value.oneCell']) (by omega) ?_
                     intro v1 w8 hown1 hb1 hg1 ho1)
        have HOW8 : Hid (w8.ownsRow w.heap.size 3 1 v1 (fr (i + 1)).length (((fr (i + 1)).map fun k : Nat => (k : Int)).map (Value.int .i64))) := by
          show World.ownsRow ..
          rw [HN.out]
          simpa using hown1
        have HB8 := Lib.hid hb1
        clear hown1 hb1 hg1 ho1
        go_roundg (l.length - (i + 1))
        case measure => omega
        case rel => exact ⟨i + 1, by omega, rfl, by go_num, HOW8.out, HB8.out⟩
      · have HN : Hid (fr (i + 1) = fr i) := by show _ = _; rw [HT'.out i hlt, if_neg hk]
        have hk2 : ¬ (l[i] : Int) = ((fr i).length : Int) := by omega
        go_wp2_with fail
        go_roundg (l.length - (i + 1))
        case measure => omega
        case rel => exact ⟨i + 1, by omega, rfl, by go_num, by rw [HN.out]; exact HOW.out, HBW.out⟩
    · obtain rfl : i = l.length := by omega
      go_wp2_with fail
      rw [← HE'.out]
      go_ret
      exact ⟨_, rfl, HOW.out, HBW.out⟩
end Go.Proofs.YtmmakljmikdooaaDoor
