import Derived.Test.YtmmakljmikdooaaDoorTwKindWalk5
/- Chapter 4: the program's all. -/
namespace Go.Proofs.YtmmakljmikdooaaDoor
open Go.RowKit Go.Maps
set_option linter.unusedVariables false
set_option linter.unusedSimpArgs false

/-- an entry, in one piece -/
structure Ent where
  t : Nat
  m : Bool
  g : Bool
def Ent.e (x : Ent) : Nat × (Bool × Bool) := (x.t, (x.m, x.g))
section
variable {w : World} {ops : Array Oper} {rest : List Oper} {o : Oper} {a : Act} {Q : Exit → Act → World → Prop}
/-- a step of a range over ways -/
theorem wp_next_way (hg : o.guard = none) (it : Operand) (hop : o.op = Op.next it false) (b r n : Nat) (D : DU) (left : Lit → Bool) (cnt : Nat) {l : List (Nat × (Bool × Bool))} (hl : MapL wayD D l) (hh : ∀ kl, left kl = true → Maps.has D kl = true)
    (hit : a.eval it = .pointer (some ⟨r, 0, none⟩)) (h : w.ranges Tryd.prog 3 wayElem b r n D left cnt)
    (hDone : cnt = 0 → (∀ kl, left kl = false) → wpList Tryd.prog ops Q rest (a.put o.dst (.tuple #[.bool false])) w)
    (hMore : ∀ (x : Ent) (w' : World) (cnt' : Nat), x.e ∈ l → w'.ranges Tryd.prog 3 wayElem b r n D (fun z => left z && !z.sameKey (kt x.t)) cnt' → cnt' < cnt →
      w.grownBy w' (some r) → w'.heap.size = w.heap.size → (Instr.entry (.pointer (some ⟨r, 0, none⟩))).run Tryd.prog w' = .ok (.tuple #[.int .i64 (x.t : Int), .agg #[.bool x.m, .bool x.g]]) w' → wpList Tryd.prog ops Q rest (a.put o.dst (.tuple #[.bool true, .int .i64 (x.t : Int), .agg #[.bool x.m, .bool x.g]])) w') : wpList Tryd.prog ops Q (o :: rest) a w :=
  wpList_next_ranges w hg it hop 3 K3 wayElem (fun x : Int => Value.int .i64 x) (fun p : Bool × Bool => wayV p)
    (fun key kl hk => by obtain ⟨x, rfl, _⟩ := Maps.keyOf_int_inv Tryd.underlying3 hk; exact ⟨x, rfl⟩)
    (fun v y hv => by obtain ⟨p, rfl, _⟩ := wayElem_inv hv; exact ⟨p, rfl⟩)
    b r n D left cnt hit h hDone (fun x p kl y w' cnt' hkey hlk hv hat hrg hlt hgr hsz hen => by
      obtain ⟨x', ex, rfl, _⟩ := Maps.keyOf_int_inv Tryd.underlying3 hkey
      cases ex
      obtain ⟨p', ep, rfl⟩ := wayElem_inv hv
      obtain ⟨e, he, hke⟩ := (hl.keys _).1 (hh _ hlk)
      have h1 := hl.at_ e he (.lit (.bool true))
      rw [← hke, hat] at h1
      have hpe : p = e.2 := by
        have : wayD p = wayD p' := by
          have hv' := (wayElem_mk p).symm.trans hv
          exact (Prod.mk.inj (Option.some.inj hv')).1
        have h2 := wayD_inj h1
        have h3 := wayD_inj this
        rw [h3, h2]
      have hxe : x = (e.1 : Int) := by
        exact (Lit.int.inj hke).2
      subst hxe
      subst hpe
      exact hMore ⟨e.1, e.2.1, e.2.2⟩ w' cnt' he hrg hlt hgr hsz hen)
end
theorem beq_way (p q : Bool × Bool) : (p == q) = (p.1 == q.1 && p.2 == q.2) := rfl
set_option maxRecDepth 100000 in
set_option maxHeartbeats 4000000 in
theorem sight_all_any (T b n : Nat) (X x Y : Int) (p : Bool × Bool) (D : DU) (l : List (Nat × (Bool × Bool))) (w : World) (hown : w.ownsMap Tryd.prog 3 wayElem b n D) (hl : MapL wayD D l) :
    Calls Tryd.prog 26 #[sightV T b X x Y, .agg #[.bool p.1, .bool p.2]] w fun e w' => e = .returned (.bool (l.all (fun e => e.2 == p))) ∧ Below w.heap.size w w' := by
  have HOWN := Lib.hid hown
  have HL := Lib.hid hl
  obtain ⟨r, hr⟩ : ∃ r, l.all (fun e => e.2 == p) = r := ⟨_, rfl⟩
  rw [hr]
  have HRR := Lib.hid hr
  clear hr hown hl
  unfold sightV
  have HX := Lib.hid ((Arr.new w #[.int .i64 (T : Int), .map (some b), .int .i64 X, .int .i64 0, .int .i64 x, .int .i64 Y] 82).alloc (.cells #[.bool p.1, .bool p.2] 87))
  have HP := Lib.hid (arr_new2 w (.cells #[.int .i64 (T : Int), .map (some b), .int .i64 X, .int .i64 0, .int .i64 x, .int .i64 Y] 82) #[.bool p.1, .bool p.2] 87)
  have HB0 := Lib.hid (al2 w (.cells #[.int .i64 (T : Int), .map (some b), .int .i64 X, .int .i64 0, .int .i64 x, .int .i64 Y] 82) (.cells #[.bool p.1, .bool p.2] 87))
  go_enter Tryd.func26, Tryd.ntmps26
  go_upto_region 1 with fail
  have HO0 := Lib.hid ((HOWN.out.alloc (.cells #[.int .i64 (T : Int), .map (some b), .int .i64 X, .int .i64 0, .int .i64 x, .int .i64 Y] 82)).alloc (.cells #[.bool p.1, .bool p.2] 87))
  generalize (w.alloc (.cells #[.int .i64 (T : Int), .map (some b), .int .i64 X, .int .i64 0, .int .i64 x, .int .i64 Y] 82)).alloc (.cells #[.bool p.1, .bool p.2] 87) = w0 at *
  have x1 := HX.out.cell (k := 1) rfl
  go_upto_region 2 with (at_range
                         refine wpList_range_own _ rfl _ 76 rfl 3 87 K3 Tryd.underlying76 wayElem b n D rfl HO0.out ?_
                         intro w1 hrg0 hg0 hs0)
  have HRG := Lib.hid hrg0
  have HB1 : Hid (Below w.heap.size w w1) := HB0.out.trans (Below.mono ⟨hg0.os, hg0.tape, hg0.output, hg0.size, fun k hk => hg0.block k hk (by simp)⟩ HB0.out.size)
  have HP1 := Lib.hid (HP.out.of_eq (hg0.block _ HP.out.lt (by simp)))
  have HRL := Lib.hid HB0.out.size
  have HPL := Lib.hid HP.out.lt
  clear hrg0 hg0 hs0 x1
  go_loopg [10] (Maps.size D) (fun gg _ wr => ∃ left : Lit → Bool, wr.ranges Tryd.prog 3 wayElem b w0.heap.size n D left gg ∧ (∀ kl, left kl = true → Maps.has D kl = true) ∧ (∀ e ∈ l, left (kt e.1) = false → e.2 = p) ∧ Arr wr (w.heap.size + 1) 87 [.bool p.1, .bool p.2] ∧ Below w.heap.size w wr)
  case atStart => exact ⟨Maps.has D, HRG.out, fun kl h => h, fun e he h => (by
    rw [(HL.out.keys _).2 ⟨e, he, rfl⟩] at h
    cases h), HP1.out, HB1.out⟩
  case round =>
    clear HRG HP1 HB1
    obtain ⟨left, hrg, hlh, hall, hp, hb⟩ := hrel
    have HRG := Lib.hid hrg
    have HLH := Lib.hid hlh
    have HALL := Lib.hid hall
    have HPW := Lib.hid hp
    have HBW := Lib.hid hb
    clear hrg hlh hall hp hb
    rename World => wr
    go_upto_region 3 with (at_next
                           refine wp_next_way rfl _ rfl b w0.heap.size n D left _ HL.out HLH.out rfl HRG.out ?_ ?_)
    · intro hz0 hno
      have hallt : l.all (fun e => e.2 == p) = true := List.all_eq_true.2 fun e he => by rw [HALL.out e he (hno _)]; simp
      have HE : Hid (r = true) := by show _ = _; rw [← HRR.out, hallt]
      clear hz0 hno hallt
      go_wp2_with fail
      go_ret
      refine ⟨?_, HBW.out⟩
      rw [HE.out]; rfl
    · intro xe w2 cnt2 hmem hrg2 hlt2 hg2 hs2 hen
      have HRG2 := Lib.hid hrg2
      have HB2 : Hid (Below w.heap.size w w2) := HBW.out.grown hg2 HBW.out.size (fun k e => by cases e; exact HRL.out)
      have HP2 := Lib.hid (HPW.out.grown hg2 (by simp; have := HPL.out; omega))
      have HME := Lib.hid hmem
      clear hrg2 hg2 hs2 hmem
      obtain ⟨xt, xm, xg⟩ := xe
      dsimp only at hen
      have hxs : Hid (Ent.e ⟨xt, xm, xg⟩ = (xt, (xm, xg))) := rfl
      go_upto_region 3 with fail
      go_upto_region 4 with fail
      clear hen
      have hd := al1 w2 (.cells #[.bool xm, .bool xg] 87)
      have HE2 := Lib.hid (Arr.new w2 #[.bool xm, .bool xg] 87)
      have HRG3 := Lib.hid (HRG2.out.alloc (.cells #[.bool xm, .bool xg] 87))
      generalize w2.alloc (.cells #[.bool xm, .bool xg] 87) = w3 at *
      have HB3 := Lib.hid (HB2.out.trans (hd.mono HB2.out.size))
      have HP3 := Lib.hid (HP2.out.of_eq (hd.block _ HP2.out.lt))
      clear hd HB2 HP2 HRG2
      have e0 := HE2.out.cell (k := 0) rfl
      have e1 := HE2.out.cell (k := 1) rfl
      have p0 := HP3.out.cell (k := 0) rfl
      have p1 := HP3.out.cell (k := 1) rfl
      by_cases h1 : xm = p.1 ∧ xg = p.2
      · have q1 : (xm == p.1) = true := by simpa using h1.1
        have q2 : (xg == p.2) = true := by simpa using h1.2
        have HALL3 : Hid (∀ e ∈ l, (left (kt e.1) && !(kt e.1).sameKey (kt xt)) = false → e.2 = p) := fun e he h => by
          rcases hle : left (kt e.1) with _ | _
          · exact HALL.out e he hle
          · rw [hle, Bool.true_and] at h
            have hs : (kt e.1).sameKey (kt xt) = true := by simpa using h
            have ht := kt_inj (WideAt.sameKey_eq hs)
            have h2 := HL.out.at_ e he (.lit (.bool true))
            have h3 := HL.out.at_ _ HME.out (.lit (.bool true))
            rw [hxs.out] at h3
            dsimp only at h3
            rw [← ht, h2] at h3
            rw [wayD_inj h3]
            apply Prod.ext
            · exact h1.1
            · exact h1.2
        clear h1
        go_wp2_with fail
        go_roundg cnt2
        case measure => omega
        case rel => exact ⟨_, HRG3.out, fun kl h => HLH.out kl (by simp only [Bool.and_eq_true] at h; exact h.1), HALL3.out, HP3.out, HB3.out⟩
      · have HE : Hid (r = false) := by
          show _ = _
          rw [← HRR.out, List.all_eq_false]
          refine ⟨_, HME.out, ?_⟩
          rw [hxs.out]
          dsimp only
          intro h
          have := (beq_iff_eq).1 h
          exact h1 ⟨congrArg Prod.fst this, congrArg Prod.snd this⟩
        by_cases h2 : xm = p.1
        · have q1 : (xm == p.1) = true := by simpa using h2
          have q2 : (xg == p.2) = false := by simpa using fun h => h1 ⟨h2, h⟩
          clear h1 h2
          go_wp2_with fail
          go_ret
          refine ⟨?_, HB3.out⟩
          rw [HE.out]; rfl
        · have q1 : (xm == p.1) = false := by simpa using h2
          clear h1 h2
          go_wp2_with fail
          go_ret
          refine ⟨?_, HB3.out⟩
          rw [HE.out]; rfl
end Go.Proofs.YtmmakljmikdooaaDoor
