/- Chapter 12: what the program's Run answers, for any number of needles; what cloth is made of it. -/
import Derived.Test.YtaacfjeddoekfaaKnitWalk10
import Derived.Test.YtaacfjeddoekfaaFabBuild
import Derived.Test.YtaacfjeddoekfaaFabSwap
namespace Go.Proofs.Ytaacfjeddoekfaa
open Go.RowKit
set_option linter.unusedVariables false

def runAF (n : Int) (l : List Sti) : Int × Int := if 1 ≤ n ∧ n ≤ 128 then runF n.toNat l else (3, 0)
def runAK (n : Int) (l : List Sti) : Kn := if 1 ≤ n ∧ n ≤ 128 then runK n.toNat l else noKn
theorem RunA_any (n : Int) {v : Value} {l : List Sti} (w : World) (hv : Stitches w (fun b => b < w.heap.size) v l) :
    Calls Try.prog 11 #[.int .i64 n, v] w fun e w' => ∃ kv, e = .returned (.tuple #[kv, .agg #[.int .i64 (runAF n l).1, .int .i64 (runAF n l).2]]) ∧ KnR w' (fun b => b < w'.heap.size) kv (runAK n l) ∧ Below w.heap.size w w' := by
  by_cases h : 1 ≤ n ∧ n ≤ 128
  · obtain ⟨N, rfl⟩ : ∃ N : Nat, n = (N : Int) := ⟨n.toNat, by omega⟩
    unfold runAF runAK
    rw [if_pos h, if_pos h, Int.toNat_natCast]
    exact Run_ok N (by omega) (by omega) w hv
  · unfold runAF runAK
    rw [if_neg h, if_neg h]
    refine (Run_range n (by omega) w hv).mono ?_
    rintro e w' ⟨rfl, hb⟩
    exact ⟨_, rfl, noKn_R _ _, hb⟩
/-- what a run that was fine has left -/
structure Ok (N : Nat) (k : Kn) : Prop where
  N1 : 1 ≤ N
  N2 : N ≤ 128
  told : Told k
  loops : k.loops.length ≤ 4096
  car : ∀ l ∈ k.loops, 0 ≤ l.car ∧ l.car ≤ 7
  thr : ∀ i, i < k.loops.length → (k.loops.getD i noLop).thr.length ≤ 8
  loose : k.loose.length ≤ 32768
  front : k.front.length = N
  back : k.back.length = N
  fl : ∀ i, (k.front.getD i []).length ≤ 8
  bl : ∀ i, (k.back.getD i []).length ≤ 8
theorem ok_after {N : Nat} (h1 : 1 ≤ N) (h2 : N ≤ 128) (l : List Sti) : Ok N (told N (afterK N l)) := by
  have hk := kinv_after N l
  have hl := hk.loops
  have hd := hk.d
  have ho := hk.loose
  refine ⟨h1, h2, told_after N l, by show (afterK N l).loops.length ≤ _; omega, hk.car, fun i hi => hk.thr _ ?_, by show (afterK N l).loose.length ≤ _; omega, by unfold told; simp, by unfold told; simp, fun i => ?_, fun i => ?_⟩
  · have hi' : i < (afterK N l).loops.length := hi
    show (afterK N l).loops.getD i noLop ∈ _
    rw [List.getD_eq_getElem?_getD, List.getElem?_eq_getElem hi']
    exact List.getElem_mem hi'
  · unfold told
    dsimp only
    rw [List.getD_eq_getElem?_getD, List.getElem?_map]
    by_cases h : i < N
    · simp [h]; exact hk.on _ _
    · simp [h]
  · unfold told
    dsimp only
    rw [List.getD_eq_getElem?_getD, List.getElem?_map]
    by_cases h : i < N
    · simp [h]; exact hk.on _ _
    · simp [h]
theorem runA_ok {n : Int} {l : List Sti} (h : (runAF n l).1 = 0) : ∃ N : Nat, n = (N : Int) ∧ 1 ≤ N ∧ N ≤ 128 ∧ Flawless N l ∧ runAK n l = told N (afterK N l) ∧ (runAF n l).2 = 0 := by
  unfold runAF at h ⊢
  unfold runAK
  by_cases c : 1 ≤ n ∧ n ≤ 128
  · rw [if_pos c] at h
    obtain ⟨N, rfl⟩ : ∃ N : Nat, n = (N : Int) := ⟨n.toNat, by omega⟩
    rw [Int.toNat_natCast] at h
    have hg := run_good h
    obtain ⟨e1, e2⟩ := good_run hg
    rw [if_pos c, if_pos c, Int.toNat_natCast, e1, e2]
    exact ⟨N, rfl, by omega, by omega, hg, rfl, rfl⟩
  · rw [if_neg c] at h
    cases h
theorem runA_bad {n : Int} {l : List Sti} (h : (runAF n l).1 ≠ 0) : runAK n l = noKn := by
  unfold runAF at h
  unfold runAK
  by_cases c : 1 ≤ n ∧ n ≤ 128
  · rw [if_pos c] at h ⊢
    exact Go.Proofs.Ytaacfjeddoekfaa.run_bad h
  · rw [if_neg c]
def clothA (n : Int) (l : List Sti) : Kn := if (runAF n l).1 = 0 then cloth (runAK n l) else noKn
theorem runA_of_good {N : Nat} {l : List Sti} (h1 : 1 ≤ N) (h2 : N ≤ 128) (h : Flawless N l) : runAF (N : Int) l = (0, 0) ∧ clothA (N : Int) l = cloth (told N (afterK N l)) := by
  obtain ⟨e1, e2⟩ := good_run h
  have c : 1 ≤ (N : Int) ∧ (N : Int) ≤ 128 := by omega
  have f : runAF (N : Int) l = (0, 0) := by unfold runAF; rw [if_pos c, Int.toNat_natCast, e1]
  refine ⟨f, ?_⟩
  unfold clothA
  rw [f, if_pos rfl]
  unfold runAK
  rw [if_pos c, Int.toNat_natCast, e2]
end Go.Proofs.Ytaacfjeddoekfaa
