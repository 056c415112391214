/- Texts of the seat, put together: KnitWalk2, KnitRead, KnitBuild, KnitPlain2, FabPlain, FabPlain2, FabTidy. -/
import Derived.Test.YtaacfjeddoekfaaTl1
/- Chapter 11: a loop more. -/
namespace Go.Proofs.Ytaacfjeddoekfaa
open Go.RowKit
set_option linter.unusedVariables false

set_option maxRecDepth 100000 in
set_option maxHeartbeats 1000000 in
/-- one loop more: 'm.loop(c, u)' -/
theorem loop_any {w0 w : World} {B p N : Nat} {m : MD} {k : KS} (h : MC w0 w B p N m k) (hl : k.loops.length ≤ 4096) (c : Int) {A : Option Addr} {un uc : Nat} (t : List Int) :
    Calls Try.prog 48 #[ptr p 0, .int .i64 c, .slice A un uc] w fun e w' => e = .returned (.int .i64 (k.loops.length : Int)) ∧ ∃ w1 v' z, w' = w1.setCell ⟨p, 0, none⟩ v' ∧ w.grownBy w1 m.vl.ownBlock ∧ w.heap.size ≤ z ∧
      Below B w0 w1 ∧ w1.ownsRow B 41 2 v' (k.loops.length + 1) (lrow k.loops m.tv ++ [.int .i64 c, .slice A un uc]) ∧ (v'.ownBlock = m.vl.ownBlock ∨ v'.ownBlock = some z) := by
  have c0 := h.cell (j := 0) rfl
  have hp : p < w.heap.size := h.arr.lt
  have HG : Hid (∀ g, m.vl.ownBlock = some g → g ≠ p) := fun g hg e => by
    have := h.rl g hg
    rw [e, h.rp] at this
    exact absurd this (by decide)
  have HA := Lib.hid h.arr
  have HO := Lib.hid h.ol
  have HB := Lib.hid h.below
  have hB := h.hB
  obtain ⟨Al, lc, e, h1, h2⟩ := own_form h.ol
  rw [e] at HG HO c0 ⊢
  clear h
  unfold maxLen at h2
  go_enter Try.func48, Try.ntmps48
  go_wp2_with (at_builtin
               refine app_el T23 [.int .i64 c, .slice A un uc] HO.out HB.out hB rfl rfl rfl rfl rfl ?_ ?_ ?_
               rotate_right
               intro v1 w1 hown1 hb1 hg1 ho1
               have HA1 := Lib.hid (HA.out.grown hg1 (by cases hq : Value.ownBlock (.slice Al k.loops.length lc) with | none => simp | some g => intro e; injection e with e; exact HG.out g hq e))
               have c1 := HA1.out.cell (k := 0) rfl
               have z1 := HA1.out.free 0
               obtain ⟨A1, lc1, e, h3, h4⟩ := own_form hown1
               rw [e] at hown1 ho1 ⊢
               unfold maxLen at h4
               have HF := Lib.hid (And.intro hown1 (And.intro hb1 (And.intro hg1 ho1)))
               clear hown1 hb1 hg1 ho1 e)
  case refine_1 => simp [Value.oneCell']
  case refine_2 => omega
  go_ret
  exact ⟨rfl, _, _, w.heap.size + 1, rfl, HF.out.2.2.1, by omega, HF.out.2.1, HF.out.1, HF.out.2.2.2⟩

/-- 'append(s, l...)' in a plain region: m elements that lie from place p of block g on -/
theorem app_els {P : Program} {w w0 : World} {ops : Array Oper} {rest : List Oper} {o : Oper} {a : Act} {Q : Exit → Act → World → Prop} {s x : Operand} {t e : TypeId} {z : Value} {size bytes : Nat}
    (T : SliceT P t e z size bytes) (us : List Value) {base : Nat} {v : Value} {n m g p c : Nat} {xs : List Value}
    (hown : w.ownsRow base e size v n xs) (hb : Below base w0 w) (hbase : base ≤ w0.heap.size)
    (hgd : o.guard = none)
    (ho : o.op = .call { callee := .builtin .append, args := #[s, x], argTypes := #[t, t] })
    (hs : a.eval s = v) (hx : a.eval x = .slice (some ⟨g, p, none⟩) m c)
    (hl : us.length = m * size) (hnews : ∀ j u, us[j]? = some u → w.cell? ⟨g, p + j, none⟩ = some u) (h1 : ∀ u ∈ us, u.oneCell' = true) (hbytes : (n + m) * bytes ≤ 140737488355328)
    (h : ∀ v' w', w'.ownsRow base e size v' (n + m) (xs ++ us) → Below base w0 w' → w.grownBy w' v.ownBlock → (v'.ownBlock = v.ownBlock ∨ v'.ownBlock = some w.heap.size) →
      wpList P ops Q rest (a.put o.dst v') w') : wpList P ops Q (o :: rest) a w :=
  wpList_plain hgd fun K hK => wp_app T us hown hb hbase ho hs hx hl hnews h1 hbytes fun v' w' h2 h3 h4 h5 => hK _ _ (h v' w' h2 h3 h4 h5)
theorem ints_one (xs : List Int) : ∀ u ∈ ints xs, u.oneCell' = true := by
  intro u hu
  obtain ⟨x, _, rfl⟩ := List.mem_map.1 hu
  rfl
theorem ints_len (xs : List Int) : (ints xs).length = xs.length := by simp [ints]
theorem ints_app (xs ys : List Int) : ints (xs ++ ys) = ints xs ++ ints ys := List.map_append
/-- an owned slice is nil, or begins its own block -/
theorem own_nil_or {w : World} {base : Nat} {e : TypeId} {size n : Nat} {v : Value} {xs : List Value} (h : w.ownsRow base e size v n xs) :
    (v = .slice none 0 0 ∧ n = 0) ∨ ∃ g c, v = .slice (some ⟨g, 0, none⟩) n c ∧ g < w.heap.size ∧ n ≤ c ∧ c ≤ maxLen ∧ ∀ j u, xs[j]? = some u → w.cell? ⟨g, 0 + j, none⟩ = some u := by
  rcases h.2 with h0 | ⟨g, cap, cur, rfl, hb, hg, hn, hm, _⟩
  · exact .inl h0
  · refine .inr ⟨g, cap, rfl, (Array.getElem?_eq_some_iff.1 hg).1, hn, hm, fun j u hu => ?_⟩
    have := h.cells (g := g) rfl j u hu
    unfold Addr.add at this
    split at this
    · next h0 => subst h0; simpa using this
    · simpa using this

set_option maxRecDepth 100000 in
set_option maxHeartbeats 1000000 in
theorem clone_any {B : Nat} {v : Value} {xs : List Int} (w : World) (hv : w.ownsRow B 3 1 v xs.length (ints xs)) (hx : xs.length ≤ 1000000000) :
    Calls Try.prog 50 #[v] w fun e w' => ∃ u, e = .returned u ∧ Ints w' (fun b => w.heap.size ≤ b ∧ b < w'.heap.size) u xs ∧ Below w.heap.size w w' := by
  have qT : ∀ (w : World) (a : Option Addr) (n c n' c' : Nat), (binOp .eql 25 (.slice a n c) (.slice none n' c')).run Try.prog w = .ok (.bool a.isNone) w := fun w a n c n' c' => Lib.run_eql_slice_nil w _ _ a n c n' c' Try.underlying25
  rcases own_nil_or hv with ⟨rfl, h0⟩ | ⟨g, c, rfl, hg, h1, h2, hc⟩
  · have hz : xs = [] := List.length_eq_zero_iff.1 h0
    subst hz
    go_enter Try.func50, Try.ntmps50
    go_wp2_with fail
    go_ret
    exact ⟨_, rfl, Ints.nil _ _, Below.refl _ _⟩
  · have HO : Hid ((w.alloc (.cells #[] 3)).ownsRow w.heap.size 3 1 (.slice (some ⟨w.heap.size, 0, none⟩) 0 0) 0 []) := World.ownsRow_lit (base := w.heap.size) (e := 3) (size := 1) w #[] 0 (Nat.le_refl _) (by simp [maxLen]) rfl
    have HBE : Hid (Below w.heap.size w (w.alloc (.cells #[] 3))) := (Below.refl _ _).alloc (Nat.le_refl _) _
    have HN : Hid (∀ j u, (ints xs)[j]? = some u → (w.alloc (.cells #[] 3)).cell? ⟨g, 0 + j, none⟩ = some u) := fun j u hu => by
      rw [World.cell?_alloc_lt _ _ _ (by exact hg)]; exact hc j u hu
    have HL : Hid ((ints xs).length = xs.length * 1) := by show _ = _; rw [ints_len, Nat.mul_one]
    clear hc hv
    unfold maxLen at h2
    go_enter Try.func50, Try.ntmps50
    go_wp2_with (at_builtin
                 refine app_els T25 (ints xs) HO.out HBE.out (Nat.le_refl _) rfl rfl rfl rfl HL.out HN.out (ints_one xs) ?_ ?_
                 rotate_right
                 intro v1 w1 hown1 hb1 hg1 ho1
                 rw [Nat.zero_add, List.nil_append] at hown1
                 obtain ⟨A1, lc1, rfl, h3, h4⟩ := own_form hown1
                 have HF := Lib.hid (And.intro hown1 hb1)
                 clear hown1 hb1 hg1 ho1)
    case refine_1 => omega
    go_ret
    exact ⟨_, rfl, Ints.of_own HF.out.1, HF.out.2⟩
end Go.Proofs.Ytaacfjeddoekfaa
/- Chapter 11: what is told of a machine, in memory. -/
namespace Go.Proofs.Ytaacfjeddoekfaa
open Go.RowKit
set_option linter.unusedVariables false

/-- a slice of loops reads as ls -/
def LoopsRd (w : World) (S : Nat → Prop) (v : Value) (ls : List Lop) : Prop :=
  ∃ A c tv, v = .slice A ls.length c ∧ ls.length ≤ c ∧ c ≤ maxLen ∧ Row w S 2 A ls.length (lrow ls tv) ∧ ∀ i, i < ls.length → Ints w S (tv i) (ls.getD i noLop).thr
def vrow (n : Nat) (tv : Nat → Value) : List Value := (List.range n).map tv
/-- a slice of slices of ints reads as xs -/
def ListsRd (w : World) (S : Nat → Prop) (v : Value) (xs : List (List Int)) : Prop :=
  ∃ A c tv, v = .slice A xs.length c ∧ xs.length ≤ c ∧ c ≤ maxLen ∧ Row w S 1 A xs.length (vrow xs.length tv) ∧ ∀ i, i < xs.length → Ints w S (tv i) (xs.getD i [])
def KnR (w : World) (S : Nat → Prop) (v : Value) (k : Kn) : Prop :=
  ∃ vl vf vb vo, v = .agg #[vl, vf, vb, vo, .int .i64 k.rack] ∧ LoopsRd w S vl k.loops ∧ ListsRd w S vf k.front ∧ ListsRd w S vb k.back ∧ Ints w S vo k.loose
section
variable {w w' : World} {S T : Nat → Prop} {v : Value}
theorem LoopsRd.same {ls : List Lop} (h : LoopsRd w S v ls) (k : Same S w w') : LoopsRd w' S v ls := by
  obtain ⟨A, c, tv, e, h1, h2, h3, h4⟩ := h
  exact ⟨A, c, tv, e, h1, h2, h3.same k, fun i hi => (h4 i hi).same k⟩
theorem LoopsRd.mono {ls : List Lop} (h : LoopsRd w S v ls) (k : ∀ i, S i → T i) : LoopsRd w T v ls := by
  obtain ⟨A, c, tv, e, h1, h2, h3, h4⟩ := h
  exact ⟨A, c, tv, e, h1, h2, h3.mono k, fun i hi => (h4 i hi).mono k⟩
theorem ListsRd.same {xs : List (List Int)} (h : ListsRd w S v xs) (k : Same S w w') : ListsRd w' S v xs := by
  obtain ⟨A, c, tv, e, h1, h2, h3, h4⟩ := h
  exact ⟨A, c, tv, e, h1, h2, h3.same k, fun i hi => (h4 i hi).same k⟩
theorem ListsRd.mono {xs : List (List Int)} (h : ListsRd w S v xs) (k : ∀ i, S i → T i) : ListsRd w T v xs := by
  obtain ⟨A, c, tv, e, h1, h2, h3, h4⟩ := h
  exact ⟨A, c, tv, e, h1, h2, h3.mono k, fun i hi => (h4 i hi).mono k⟩
theorem KnR.same {k : Kn} (h : KnR w S v k) (s : Same S w w') : KnR w' S v k := by
  obtain ⟨vl, vf, vb, vo, e, h1, h2, h3, h4⟩ := h
  exact ⟨vl, vf, vb, vo, e, h1.same s, h2.same s, h3.same s, h4.same s⟩
theorem KnR.mono {k : Kn} (h : KnR w S v k) (s : ∀ i, S i → T i) : KnR w T v k := by
  obtain ⟨vl, vf, vb, vo, e, h1, h2, h3, h4⟩ := h
  exact ⟨vl, vf, vb, vo, e, h1.mono s, h2.mono s, h3.mono s, h4.mono s⟩
theorem KnR.grown {k : Kn} {B : Nat} (h : KnR w (fun b => B ≤ b ∧ b < w.heap.size) v k) (hb : Below w.heap.size w w') : KnR w' (fun b => B ≤ b ∧ b < w'.heap.size) v k :=
  (h.same fun b hb' => hb.block b hb'.2).mono fun i hi => ⟨hi.1, Nat.lt_of_lt_of_le hi.2 hb.size⟩
theorem ListsRd.nil (w : World) (S : Nat → Prop) : ListsRd w S nils [] := ⟨none, 0, fun _ => nils, rfl, Nat.le_refl _, by simp [maxLen], .nil _ _ _ _, fun i h => by simp at h⟩
theorem LoopsRd.nil (w : World) (S : Nat → Prop) : LoopsRd w S nils [] := ⟨none, 0, fun _ => nils, rfl, Nat.le_refl _, by simp [maxLen], .nil _ _ _ _, fun i h => by simp at h⟩
end
theorem noKn_R (w : World) (S : Nat → Prop) : KnR w S (.agg #[nils, nils, nils, nils, .int .i64 0]) noKn := ⟨_, _, _, _, rfl, LoopsRd.nil _ _, ListsRd.nil _ _, ListsRd.nil _ _, Ints.nil _ _⟩
theorem vrow_len (n : Nat) (tv : Nat → Value) : (vrow n tv).length = n := by simp [vrow]
theorem vrow_snoc (n : Nat) (tv : Nat → Value) (u : Value) : vrow (n + 1) (fun i => if i = n then u else tv i) = vrow n tv ++ [u] := by
  unfold vrow
  rw [List.range_succ, List.map_append]
  congr 1
  · refine List.map_congr_left fun i hi => ?_
    rw [if_neg (by have : i < n := by simpa using hi
                   omega)]
  · simp
theorem lrow_get {ls : List Lop} (tv : Nat → Value) {i : Nat} (hi : i < ls.length) : (lrow ls tv)[i * 2]? = some (.int .i64 (ls.getD i noLop).car) ∧ (lrow ls tv)[i * 2 + 1]? = some (tv i) := by
  unfold lrow
  constructor
  · rw [show i * 2 = i * 2 + 0 from rfl, flat_get (n := 2) (f := fun i => [Value.int .i64 (ls.getD i noLop).car, tv i]) (fun _ => rfl) (List.range ls.length) (by simpa using hi) (by decide)]
    simp
  · rw [flat_get (n := 2) (f := fun i => [Value.int .i64 (ls.getD i noLop).car, tv i]) (fun _ => rfl) (List.range ls.length) (by simpa using hi) (by decide)]
    simp
theorem vrow_get (n : Nat) (tv : Nat → Value) {i : Nat} (hi : i < n) : (vrow n tv)[i]? = some (tv i) := by unfold vrow; simp [hi]
/-- loop i of a row of loops -/
theorem loop_cells {w : World} {S : Nat → Prop} {A : Option Addr} {ls : List Lop} {tv : Nat → Value} (h : Row w S 2 A ls.length (lrow ls tv)) {i : Nat} (hi : i < ls.length) :
    ∃ b o, A = some ⟨b, o, none⟩ ∧ S b ∧ w.cell? ⟨b, o + i * 2, none⟩ = some (.int .i64 (ls.getD i noLop).car) ∧ w.cell? ⟨b, o + i * 2 + 1, none⟩ = some (tv i) := by
  obtain ⟨b, o, e, hs, hc⟩ := h.at_ (by omega)
  exact ⟨b, o, e, hs, hc _ _ (lrow_get tv hi).1, hc _ _ (lrow_get tv hi).2⟩
theorem list_cell {w : World} {S : Nat → Prop} {A : Option Addr} {n : Nat} {tv : Nat → Value} (h : Row w S 1 A n (vrow n tv)) {i : Nat} (hi : i < n) :
    ∃ b o, A = some ⟨b, o, none⟩ ∧ S b ∧ w.cell? ⟨b, o + i, none⟩ = some (tv i) := by
  obtain ⟨b, o, e, hs, hc⟩ := h.at_ (by omega)
  exact ⟨b, o, e, hs, hc _ _ (vrow_get n tv hi)⟩
end Go.Proofs.Ytaacfjeddoekfaa
/- Chapter 11: what is told is built, row by row. -/
namespace Go.Proofs.Ytaacfjeddoekfaa
open Go.RowKit
set_option linter.unusedVariables false

abbrev rK : Role := (0, 1, 0)
abbrev rC : Role := (2, 0, 0)
abbrev rV (r : Nat) : Role := (1, (r : Int), 0)
def et : Nat → TypeId
  | 0 => 41
  | _ => 25
def sz : Nat → Nat
  | 0 => 2
  | _ => 1
/-- blocks of what is only read -/
def CB (w0 w : World) (own : Nat → Role) : Nat → Prop := fun b => w0.heap.size ≤ b ∧ b < w.heap.size ∧ own b = rC
/-- something told, half built: rows that grow, lists that only are read -/
structure SB (w0 w : World) (g : Nat) (own : Nat → Role) (rs : List Nat) (v : Nat → Value) (n : Nat → Nat) (cs : Nat → List Value) (vo : Value) (rack : Int) (cl : List (Value × List Int)) : Prop where
  below : Below w0.heap.size w0 w
  arr : Arr w g 27 [v 0, v 1, v 2, vo, .int .i64 rack]
  gB : w0.heap.size ≤ g
  og : own g = rK
  row : ∀ r, r ∈ rs → w.ownsRow w0.heap.size (et r) (sz r) (v r) (n r) (cs r) ∧ Sep (v r) (rV r) own
  cl : ∀ q ∈ cl, Ints w (CB w0 w own) q.1 q.2
section
variable {w0 w w1 : World} {g : Nat} {own : Nat → Role} {rs : List Nat} {v : Nat → Value} {n : Nat → Nat} {cs : Nat → List Value} {vo : Value} {rack : Int} {cl : List (Value × List Int)}
theorem SB.keep (h : SB w0 w g own rs v n cs vo rack cl) (hb : Below w.heap.size w w1) : SB w0 w1 g own rs v n cs vo rack cl :=
  ⟨h.below.trans (hb.mono h.below.size), h.arr.of_eq (hb.block _ h.arr.lt), h.gB, h.og, fun r hr => ⟨own_below (h.row r hr).1 hb (Nat.le_refl _), (h.row r hr).2⟩,
    fun q hq => ((h.cl q hq).same fun b hb' => hb.block b hb'.2.1).mono fun b hb' => ⟨hb'.1, Nat.lt_of_lt_of_le hb'.2.1 hb.size, hb'.2.2⟩⟩
theorem SB.drew (h : SB w0 w g own rs v n cs vo rack cl) : SB w0 w.drew g own rs v n cs vo rack cl := h.keep (below_dN (n := 1) (Below.refl _ _))
/-- a list more that is only read -/
theorem SB.more (h : SB w0 w g own rs v n cs vo rack cl) (hb : Below w.heap.size w w1) {u : Value} {xs : List Int} (hu : Ints w1 (fun b => w.heap.size ≤ b ∧ b < w1.heap.size) u xs) :
    SB w0 w1 g (fun b => if b < w.heap.size then own b else rC) rs v n cs vo rack ((u, xs) :: cl) := by
  have k := h.keep hb
  refine ⟨k.below, k.arr, k.gB, by show (if g < w.heap.size then own g else rC) = rK; rw [if_pos h.arr.lt]; exact h.og, fun r hr => ⟨(k.row r hr).1, fun x hx => ?_⟩, fun q hq => ?_⟩
  · show (if x < w.heap.size then own x else rC) = rV r
    rw [if_pos ((h.row r hr).1.lt x hx).2]
    exact (h.row r hr).2 x hx
  · rcases List.mem_cons.1 hq with rfl | hq
    · exact hu.mono fun b hb' => ⟨Nat.le_trans h.below.size hb'.1, hb'.2, by show (if b < w.heap.size then own b else rC) = rC; rw [if_neg (by omega)]⟩
    · exact ((h.cl q hq).same fun b hb' => hb.block b hb'.2.1).mono fun b hb' => ⟨hb'.1, Nat.lt_of_lt_of_le hb'.2.1 hb.size, by show (if b < w.heap.size then own b else rC) = rC; rw [if_pos hb'.2.1]; exact hb'.2.2⟩
/-- a row grows -/
theorem SB.grow (h : SB w0 w g own rs v n cs vo rack cl) {r : Nat} (hr : r ∈ rs) (hr3 : r < 3) {v' : Value} {z m : Nat} {us : List Value} (hg : w.grownBy w1 (v r).ownBlock) (hz : w.heap.size ≤ z) (hb : Below w0.heap.size w0 w1)
    (hv : w1.ownsRow w0.heap.size (et r) (sz r) v' m us) (he : v'.ownBlock = (v r).ownBlock ∨ v'.ownBlock = some z) :
    SB w0 (w1.setCell ⟨g, r, none⟩ v') g (ow own z (rV r)) rs (fun i => if i = r then v' else v i) (fun i => if i = r then m else n i) (fun i => if i = r then us else cs i) vo rack cl := by
  have hs := (h.row r hr).2
  have hrow := (h.row r hr).1
  have K : Kept own (rV r) w w1 := .of_grown hg fun x e => hs x e
  have eg : ow own z (rV r) g = rK := by rw [ow_ne _ _ (by have := h.arr.lt; omega)]; exact h.og
  have S' : Sep v' (rV r) (ow own z (rV r)) := hs.app hrow hz he
  have K2 : Kept (ow own z (rV r)) rK w1 (w1.setCell ⟨g, r, none⟩ v') := .set r _ eg
  have hsz : (w1.setCell ⟨g, r, none⟩ v').heap.size = w1.heap.size := by simp [World.setCell]
  refine ⟨hb.setCell h.gB _, ?_, h.gB, eg, fun i hi => ?_, fun q hq => ?_⟩
  · have a := (K.arr h.arr (by rw [h.og]; simp)).set r v'
    have e : [v 0, v 1, v 2, vo, Value.int .i64 rack].set r v' = [if 0 = r then v' else v 0, if 1 = r then v' else v 1, if 2 = r then v' else v 2, vo, .int .i64 rack] := by
      have : r = 0 ∨ r = 1 ∨ r = 2 := by omega
      rcases this with rfl | rfl | rfl <;> rfl
    rw [e] at a
    exact a
  · by_cases hir : i = r
    · subst hir
      rw [if_pos rfl, if_pos rfl, if_pos rfl]
      exact ⟨K2.row hv S' (by simp), S'⟩
    · rw [if_neg hir, if_neg hir, if_neg hir]
      have s2 : Sep (v i) (rV i) (ow own z (rV r)) := (h.row i hi).2.turn (h.row i hi).1 (ow_old hz) (by simp; omega)
      exact ⟨K2.row (K.row (h.row i hi).1 (h.row i hi).2 (by simp; omega)) s2 (by simp), s2⟩
  · refine ((h.cl q hq).same fun b hb' => ?_).mono fun b hb' => ⟨hb'.1, by rw [hsz]; exact Nat.lt_of_lt_of_le hb'.2.1 K.size, by rw [ow_ne _ _ (by have := hb'.2.1; omega)]; exact hb'.2.2⟩
    have e1 := K.block b hb'.2.1 (by rw [hb'.2.2]; simp)
    have e2 := K2.block b (Nat.lt_of_lt_of_le hb'.2.1 K.size) (by rw [ow_ne _ _ (by have := hb'.2.1; omega), hb'.2.2]; simp)
    exact e2.trans e1
theorem SB.cell (h : SB w0 w g own rs v n cs vo rack cl) {j : Nat} {u : Value} (hu : [v 0, v 1, v 2, vo, Value.int .i64 rack][j]? = some u) : w.cell? ⟨g, j, none⟩ = some u := h.arr.cell hu
theorem SB.start {w0 w : World} {g : Nat} (rs : List Nat) {u0 vo : Value} {rack : Int} {xs : List Int} (hb : Below w0.heap.size w0 w) (ha : Arr w g 27 [u0, nils, nils, vo, .int .i64 rack]) (hg : w0.heap.size ≤ g) (h0 : 0 ∈ rs → u0 = nils) (hvo : Ints w (fun b => w0.heap.size ≤ b ∧ b < w.heap.size ∧ b ≠ g) vo xs) :
    SB w0 w g (fun b => if b = g then rK else rC) rs (fun i => if i = 0 then u0 else nils) (fun _ => 0) (fun _ => []) vo rack [(vo, xs)] := by
  refine ⟨hb, ha, hg, if_pos rfl, fun r hr => ?_, fun q hq => ?_⟩
  · have e : (if r = 0 then u0 else nils) = nils := by
      by_cases h : r = 0
      · subst h; rw [if_pos rfl]; exact h0 hr
      · rw [if_neg h]
    rw [e]
    exact ⟨World.ownsRow_nil _ _ _ _, Sep.nil _ _⟩
  · rw [List.mem_singleton] at hq
    subst hq
    exact hvo.mono fun b hb' => ⟨hb'.1, hb'.2.1, if_neg hb'.2.2⟩
/-- a row of lists, read -/
theorem SB.lists (h : SB w0 w g own rs v n cs vo rack cl) {r : Nat} (hr : r ∈ rs) (hr0 : r ≠ 0) {xs : List (List Int)} {tv : Nat → Value} (hn : n r = xs.length) (hc : cs r = vrow xs.length tv) (hm : ∀ i, i < xs.length → (tv i, xs.getD i []) ∈ cl) :
    ListsRd w (fun b => w0.heap.size ≤ b ∧ b < w.heap.size) (v r) xs := by
  have ho := (h.row r hr).1
  have e1 : sz r = 1 := by unfold sz; split <;> simp_all
  rw [hn, hc, e1] at ho
  obtain ⟨A, c, e, h1, h2⟩ := own_form ho
  rw [e] at ho ⊢
  exact ⟨A, c, tv, rfl, h1, h2, (Row.of_own ho), fun i hi => (h.cl _ (hm i hi)).mono fun b hb => ⟨hb.1, hb.2.1⟩⟩
theorem SB.loops (h : SB w0 w g own rs v n cs vo rack cl) (hr : 0 ∈ rs) {ls : List Lop} {tv : Nat → Value} (hn : n 0 = ls.length) (hc : cs 0 = lrow ls tv) (hm : ∀ i, i < ls.length → (tv i, (ls.getD i noLop).thr) ∈ cl) :
    LoopsRd w (fun b => w0.heap.size ≤ b ∧ b < w.heap.size) (v 0) ls := by
  have ho := (h.row 0 hr).1
  rw [hn, hc] at ho
  obtain ⟨A, c, e, h1, h2⟩ := own_form ho
  rw [e] at ho ⊢
  exact ⟨A, c, tv, rfl, h1, h2, (Row.of_own ho), fun i hi => (h.cl _ (hm i hi)).mono fun b hb => ⟨hb.1, hb.2.1⟩⟩
end
/-- i loops are told -/
def S1 (wA w : World) (g : Nat) (k : KS) (i : Nat) : Prop := ∃ own v n cs vo cl tl, SB wA w g own [0, 1, 2] v n cs vo k.rack cl ∧ n 0 = i ∧ cs 0 = lrow (k.loops.take i) tl ∧ (∀ j, j < i → (tl j, (k.loops.getD j noLop).thr) ∈ cl) ∧ (vo, k.loose) ∈ cl ∧
  v 1 = nils ∧ v 2 = nils ∧ n 1 = 0 ∧ n 2 = 0 ∧ cs 1 = [] ∧ cs 2 = []
theorem S1.below {wA w : World} {g : Nat} {k : KS} {i : Nat} (h : S1 wA w g k i) : Below wA.heap.size wA w := by obtain ⟨own, v, n, cs, vo, cl, tl, hs, _⟩ := h; exact hs.below
theorem S1.app {wA wx w7 : World} {g z : Nat} {k : KS} {i : Nat} {own : Nat → Role} {v : Nat → Value} {n : Nat → Nat} {cs : Nat → List Value} {vo u v' : Value} {cl : List (Value × List Int)} {tl : Nat → Value} (hs : SB wA wx g own [0, 1, 2] v n cs vo k.rack cl) (hi : i < k.loops.length)
    (e0 : cs 0 = lrow (k.loops.take i) tl) (hm : ∀ j, j < i → (tl j, (k.loops.getD j noLop).thr) ∈ cl) (hu : (u, (k.loops.getD i noLop).thr) ∈ cl) (hvo : (vo, k.loose) ∈ cl) (h1 : v 1 = nils ∧ v 2 = nils ∧ n 1 = 0 ∧ n 2 = 0 ∧ cs 1 = [] ∧ cs 2 = [])
    (hg : wx.grownBy w7 (v 0).ownBlock) (hz : wx.heap.size ≤ z) (hb : Below wA.heap.size wA w7) (hv : w7.ownsRow wA.heap.size 41 2 v' (i + 1) (cs 0 ++ [.int .i64 (k.loops.getD i noLop).car, u])) (he : v'.ownBlock = (v 0).ownBlock ∨ v'.ownBlock = some z) :
    S1 wA (w7.setCell ⟨g, 0, none⟩ v') g k (i + 1) := by
  have hg2 := hs.grow (r := 0) (by simp) (by decide) hg hz hb hv he
  have hl : (k.loops.take i).length = i := by rw [List.length_take]; omega
  refine ⟨_, _, _, _, _, _, fun j => if j = i then u else tl j, hg2, if_pos rfl, ?_, fun j hj => ?_, hvo, h1.1, h1.2.1, h1.2.2.1, h1.2.2.2.1, h1.2.2.2.2.1, h1.2.2.2.2.2⟩
  · show (if 0 = 0 then _ else _) = _
    rw [if_pos rfl, e0, List.take_succ_eq_append_getElem hi]
    have := lrow_snoc (k.loops.take i) tl k.loops[i] u
    rw [hl] at this
    rw [this]
    simp [hi]
  · by_cases h : j = i
    · subst h; dsimp only; rw [if_pos rfl]; exact hu
    · dsimp only; rw [if_neg h]; exact hm j (by omega)
/-- of i needles of the front bed, of i2 of the back bed it is told what they hold -/
def S2 (wA w : World) (g : Nat) (k : KS) (i i2 : Nat) : Prop := ∃ own v n cs vo cl tl tf tb, SB wA w g own [0, 1, 2] v n cs vo k.rack cl ∧ (n 0 = k.loops.length ∧ cs 0 = lrow k.loops tl ∧ (∀ j, j < k.loops.length → (tl j, (k.loops.getD j noLop).thr) ∈ cl) ∧ (vo, k.loose) ∈ cl) ∧
  (n 1 = i ∧ cs 1 = vrow i tf ∧ (∀ j : Nat, j < i → (tf j, k.on 0 (j : Int)) ∈ cl)) ∧ n 2 = i2 ∧ cs 2 = vrow i2 tb ∧ (∀ j : Nat, j < i2 → (tb j, k.on 1 (j : Int)) ∈ cl)
theorem S2.below {wA w : World} {g : Nat} {k : KS} {i i2 : Nat} (h : S2 wA w g k i i2) : Below wA.heap.size wA w := by obtain ⟨own, v, n, cs, vo, cl, tl, tf, tb, hs, _⟩ := h; exact hs.below
theorem S2.start {wA w : World} {g : Nat} {k : KS} (h : S1 wA w g k k.loops.length) : S2 wA w g k 0 0 := by
  obtain ⟨own, v, n, cs, vo, cl, tl, hs, e0, e1, hm, hvo, h1, h2, h3, h4, h5, h6⟩ := h
  rw [List.take_length] at e1
  exact ⟨own, v, n, cs, vo, cl, tl, fun _ => nils, fun _ => nils, hs, ⟨e0, e1, hm, hvo⟩, ⟨h3, h5, fun j hj => by omega⟩, h4, h6, fun j hj => by omega⟩
theorem vrow_mem {cl : List (Value × List Int)} {tv : Nat → Value} {f : Nat → List Int} {i : Nat} {u : Value} (hm : ∀ j : Nat, j < i → (tv j, f j) ∈ cl) (hu : (u, f i) ∈ cl) : ∀ j : Nat, j < i + 1 → ((if j = i then u else tv j), f j) ∈ cl := fun j hj => by
  by_cases h : j = i
  · subst h; rw [if_pos rfl]; exact hu
  · rw [if_neg h]; exact hm j (by omega)
section
variable {wA wx w7 : World} {g z : Nat} {k : KS} {i i2 : Nat} {own : Nat → Role} {v : Nat → Value} {n : Nat → Nat} {cs : Nat → List Value} {vo u v' : Value} {cl : List (Value × List Int)} {tl tf tb : Nat → Value}
theorem S2.front (hs : SB wA wx g own [0, 1, 2] v n cs vo k.rack cl) (h0 : n 0 = k.loops.length ∧ cs 0 = lrow k.loops tl ∧ (∀ j, j < k.loops.length → (tl j, (k.loops.getD j noLop).thr) ∈ cl) ∧ (vo, k.loose) ∈ cl)
    (h1 : n 1 = i ∧ cs 1 = vrow i tf ∧ (∀ j : Nat, j < i → (tf j, k.on 0 (j : Int)) ∈ cl)) (h2 : n 2 = i2 ∧ cs 2 = vrow i2 tb ∧ (∀ j : Nat, j < i2 → (tb j, k.on 1 (j : Int)) ∈ cl)) (hu : (u, k.on 0 (i : Int)) ∈ cl)
    (hg : wx.grownBy w7 (v 1).ownBlock) (hz : wx.heap.size ≤ z) (hb : Below wA.heap.size wA w7) (hv : w7.ownsRow wA.heap.size 25 1 v' (i + 1) (cs 1 ++ [u])) (he : v'.ownBlock = (v 1).ownBlock ∨ v'.ownBlock = some z) :
    S2 wA (w7.setCell ⟨g, 1, none⟩ v') g k (i + 1) i2 := by
  have hg2 := hs.grow (r := 1) (by simp) (by decide) hg hz hb hv he
  refine ⟨_, _, _, _, _, _, tl, fun j => if j = i then u else tf j, tb, hg2, h0, ⟨if_pos rfl, ?_, vrow_mem (f := fun j : Nat => k.on 0 (j : Int)) h1.2.2 hu⟩, h2⟩
  show (if 1 = 1 then _ else _) = _
  rw [if_pos rfl, h1.2.1, vrow_snoc]
theorem S2.back (hs : SB wA wx g own [0, 1, 2] v n cs vo k.rack cl) (h0 : n 0 = k.loops.length ∧ cs 0 = lrow k.loops tl ∧ (∀ j, j < k.loops.length → (tl j, (k.loops.getD j noLop).thr) ∈ cl) ∧ (vo, k.loose) ∈ cl)
    (h1 : n 1 = i ∧ cs 1 = vrow i tf ∧ (∀ j : Nat, j < i → (tf j, k.on 0 (j : Int)) ∈ cl)) (h2 : n 2 = i2 ∧ cs 2 = vrow i2 tb ∧ (∀ j : Nat, j < i2 → (tb j, k.on 1 (j : Int)) ∈ cl)) (hu : (u, k.on 1 (i2 : Int)) ∈ cl)
    (hg : wx.grownBy w7 (v 2).ownBlock) (hz : wx.heap.size ≤ z) (hb : Below wA.heap.size wA w7) (hv : w7.ownsRow wA.heap.size 25 1 v' (i2 + 1) (cs 2 ++ [u])) (he : v'.ownBlock = (v 2).ownBlock ∨ v'.ownBlock = some z) :
    S2 wA (w7.setCell ⟨g, 2, none⟩ v') g k i (i2 + 1) := by
  have hg2 := hs.grow (r := 2) (by simp) (by decide) hg hz hb hv he
  refine ⟨_, _, _, _, _, _, tl, tf, fun j => if j = i2 then u else tb j, hg2, h0, h1, if_pos rfl, ?_, vrow_mem (f := fun j : Nat => k.on 1 (j : Int)) h2.2.2 hu⟩
  show (if 2 = 2 then _ else _) = _
  rw [if_pos rfl, h2.2.1, vrow_snoc]
end
theorem getD_on (k : KS) (b : Int) {N i : Nat} (hi : i < N) : ((List.range N).map fun n : Nat => k.on b (n : Int)).getD i [] = k.on b (i : Int) := by simp [hi]
theorem S2.end_ {wA w : World} {g : Nat} {k : KS} {N : Nat} (h : S2 wA w g k N N) : ∃ v0 v1 v2 vo, Arr w g 27 [v0, v1, v2, vo, .int .i64 k.rack] ∧ KnR w (fun b => wA.heap.size ≤ b ∧ b < w.heap.size) (.agg #[v0, v1, v2, vo, .int .i64 k.rack]) (told N k) := by
  obtain ⟨own, v, n, cs, vo, cl, tl, tf, tb, hs, ⟨e0, e1, hm, hvo⟩, ⟨h1, h2, h3⟩, h4, h5, h6⟩ := h
  refine ⟨v 0, v 1, v 2, vo, hs.arr, v 0, v 1, v 2, vo, rfl, hs.loops (by simp) e0 e1 hm, ?_, ?_, (hs.cl _ hvo).mono fun b hb => ⟨hb.1, hb.2.1⟩⟩
  · refine hs.lists (r := 1) (by simp) (by decide) (tv := tf) ?_ ?_ fun i hi => ?_
    · unfold told; simpa using h1
    · unfold told; simpa using h2
    · unfold told at hi ⊢; simp only [List.length_map, List.length_range] at hi; dsimp only; rw [getD_on k 0 hi]; exact h3 i hi
  · refine hs.lists (r := 2) (by simp) (by decide) (tv := tb) ?_ ?_ fun i hi => ?_
    · unfold told; simpa using h4
    · unfold told; simpa using h5
    · unfold told at hi ⊢; simp only [List.length_map, List.length_range] at hi; dsimp only; rw [getD_on k 1 hi]; exact h6 i hi
end Go.Proofs.Ytaacfjeddoekfaa
/- Chapter 11, plain: seen from behind; without what was refused; no loop is lost. -/
namespace Go.Proofs.Ytaacfjeddoekfaa
set_option linter.unusedVariables false

/-! ### seen from behind -/
def flip (b : Int) : Int := if b = 0 ∨ b = 1 then 1 - b else b
def turnS (x : Sti) : Sti := ⟨x.d, flip x.b, x.n, x.c, if x.d = 6 ∧ -4 ≤ x.t ∧ x.t ≤ 4 then -x.t else x.t⟩
def turnK (k : KS) : KS := ⟨k.loops, fun b n => k.on (flip b) n, k.loose, -k.rack, k.done⟩
theorem flip_flip (b : Int) : flip (flip b) = b := by unfold flip; split <;> (try split) <;> omega
theorem flip_inj {a b : Int} (h : flip a = flip b) : a = b := by rw [← flip_flip a, h, flip_flip]
theorem there_flip {N : Nat} {b n : Int} : There N (flip b) n ↔ There N b n := by unfold There flip; split <;> omega
theorem fB_flip {b : Int} (h : b = 0 ∨ b = 1) : fB (flip b) = flip (fB b) := by rcases h with rfl | rfl <;> rfl
theorem fN_flip {r b n : Int} (h : b = 0 ∨ b = 1) : fN (-r) (flip b) n = fN r b n := by
  rcases h with rfl | rfl
  · show n + -r = n - r; omega
  · show n - -r = n + r; omega
theorem put_flip (on : Int → Int → List Int) (b n : Int) (l : List Int) : (fun b' n' => put on b n l (flip b') n') = put (fun b' n' => on (flip b') n') (flip b) n l := by
  funext b' n'
  unfold put
  by_cases h : b' = flip b ∧ n' = n
  · rw [if_pos h, if_pos ⟨by rw [h.1, flip_flip], h.2⟩]
  · rw [if_neg h, if_neg fun e => h ⟨by rw [← e.1, flip_flip], e.2⟩]
theorem ln_turn (k : KS) (x : Sti) : (turnK k).ln (turnS x) = k.ln x := by unfold KS.ln turnK turnS; dsimp only; rw [flip_flip]
theorem lf_turn (k : KS) {x : Sti} (h : x.b = 0 ∨ x.b = 1) : (turnK k).lf (turnS x) = k.lf x := by unfold KS.lf turnK turnS; dsimp only; rw [fB_flip h, fN_flip h, flip_flip]
theorem wrong_turn (N : Nat) (k : KS) (x : Sti) : wrongK N (turnK k) (turnS x) = wrongK N k x := by
  unfold wrongK
  rw [ln_turn]
  have e1 : (turnS x).d = x.d := rfl
  have e2 : (turnS x).c = x.c := rfl
  have e3 : (turnS x).n = x.n := rfl
  have e4 : (turnS x).b = flip x.b := rfl
  have e5 : (turnK k).done = k.done := rfl
  have e6 : (turnK k).rack = -k.rack := rfl
  simp only [e1, e2, e3, e4, e5, e6, there_flip]
  by_cases h6 : x.d = 6
  · simp only [if_pos h6]
    have e7 : (turnS x).t = if x.d = 6 ∧ -4 ≤ x.t ∧ x.t ≤ 4 then -x.t else x.t := rfl
    by_cases ht : -4 ≤ x.t ∧ x.t ≤ 4
    · rw [if_pos ⟨h6, ht⟩] at e7
      rw [e7, if_neg (by omega : ¬ (-x.t < -4 ∨ 4 < -x.t)), if_neg (by omega : ¬ (x.t < -4 ∨ 4 < x.t))]
    · rw [if_neg (fun c => ht c.2)] at e7
      rw [e7]
  · by_cases ht : There N x.b x.n
    · simp only [if_neg h6, lf_turn k ht.1, fB_flip ht.1, fN_flip ht.1, there_flip]
    · simp only [if_pos ht, if_neg h6]
theorem step_turn {N : Nat} {k : KS} {x : Sti} (h : wrongK N k x = 0) : stepK (turnK k) (turnS x) = turnK (stepK k x) := by
  obtain ⟨w1, w2, w3, w4, w5, w6, w7, w8, w9⟩ := wrong_bounds h
  have e1 : (turnS x).d = x.d := rfl
  have e2 : (turnS x).c = x.c := rfl
  have e3 : (turnS x).n = x.n := rfl
  have e4 : (turnS x).b = flip x.b := rfl
  have e7 : (turnS x).t = if x.d = 6 ∧ -4 ≤ x.t ∧ x.t ≤ 4 then -x.t else x.t := rfl
  have eo : ∀ b n, (turnK k).on b n = k.on (flip b) n := fun _ _ => rfl
  unfold stepK
  rw [e1, e2, e3, e4, e7]
  by_cases h6 : x.d = 6
  · rw [if_pos h6, if_pos h6, if_pos ⟨h6, w4 h6⟩]; rfl
  have ht := w5 h6
  rw [if_neg h6, if_neg h6]
  by_cases h1 : x.d = 1
  · rw [if_pos h1, if_pos h1]
    unfold turnK
    dsimp only
    rw [flip_flip, put_flip]
  rw [if_neg h1, if_neg h1]
  by_cases h2 : x.d = 2
  · rw [if_pos h2, if_pos h2]
    unfold turnK
    dsimp only
    rw [flip_flip, put_flip]
  rw [if_neg h2, if_neg h2]
  by_cases h4 : x.d = 4
  · rw [if_pos h4, if_pos h4]
    unfold turnK
    dsimp only
    rw [flip_flip, put_flip, put_flip, fB_flip ht.1, fN_flip ht.1, flip_flip]
  rw [if_neg h4, if_neg h4]
  by_cases h5 : x.d = 5
  · rw [if_pos h5, if_pos h5]
    unfold turnK
    dsimp only
    rw [flip_flip, put_flip]
  rw [if_neg h5, if_neg h5]
  rfl
theorem do_turn (N : Nat) (k : KS) (x : Sti) : doK N (turnK k) (turnS x) = turnK (doK N k x) := by
  unfold doK
  rw [wrong_turn]
  split
  · exact step_turn (by assumption)
  · rfl
theorem fold_turn (N : Nat) : ∀ (l : List Sti) (k : KS), (l.map turnS).foldl (doK N) (turnK k) = turnK (l.foldl (doK N) k)
  | [], k => rfl
  | x :: l, k => by rw [List.map_cons, List.foldl_cons, do_turn, fold_turn N l, List.foldl_cons]
theorem errs_turn (N : Nat) : ∀ (l : List Sti) (k : KS), errsK N (turnK k) (l.map turnS) = errsK N k l
  | [], k => rfl
  | x :: l, k => by rw [List.map_cons, errsK, wrong_turn, do_turn, errs_turn N l, errsK]
theorem turn_zero : turnK zeroK = zeroK := rfl
theorem after_turn (N : Nat) (l : List Sti) : afterK N (l.map turnS) = turnK (afterK N l) := by
  unfold afterK; rw [← fold_turn, turn_zero]
theorem told_turn (N : Nat) (k : KS) : told N (turnK k) = ⟨(told N k).loops, (told N k).back, (told N k).front, (told N k).loose, -(told N k).rack⟩ := rfl

/-! ### without what was refused -/
def keptK (N : Nat) : KS → List Sti → List Sti
  | _, [] => []
  | k, x :: l => if wrongK N k x = 0 then x :: keptK N (doK N k x) l else keptK N (doK N k x) l
theorem kept_append (N : Nat) : ∀ (l m : List Sti) (k : KS), keptK N k (l ++ m) = keptK N k l ++ keptK N (l.foldl (doK N) k) m
  | [], m, k => rfl
  | x :: l, m, k => by
    rw [List.cons_append, keptK, keptK, kept_append N l, List.foldl_cons]
    split
    · rw [List.cons_append]
    · rfl
theorem kept_take {N : Nat} {l : List Sti} {i : Nat} (h : i < l.length) : keptK N zeroK (l.take (i + 1)) = keptK N zeroK (l.take i) ++ (if wrongK N (afterK N (l.take i)) l[i] = 0 then [l[i]] else []) := by
  rw [List.take_succ_eq_append_getElem h, kept_append]; rfl
theorem kept_fold (N : Nat) : ∀ (l : List Sti) (k : KS), (keptK N k l).foldl (doK N) k = l.foldl (doK N) k
  | [], k => rfl
  | x :: l, k => by
    rw [keptK, List.foldl_cons]
    by_cases h : wrongK N k x = 0
    · rw [if_pos h, List.foldl_cons, kept_fold N l]
    · rw [if_neg h]
      have e : doK N k x = k := by unfold doK; rw [if_neg h]
      rw [e, kept_fold N l]
theorem kept_errs (N : Nat) : ∀ (l : List Sti) (k : KS), ∀ e ∈ errsK N k (keptK N k l), e = 0
  | [], k => fun e h => by cases h
  | x :: l, k => by
    rw [keptK]
    by_cases h : wrongK N k x = 0
    · rw [if_pos h, errsK]
      intro e he
      rcases List.mem_cons.1 he with h1 | h1
      · rw [h1, h]
      · exact kept_errs N l _ e h1
    · rw [if_neg h]
      have e : doK N k x = k := by unfold doK; rw [if_neg h]
      rw [e]
      exact kept_errs N l _
theorem kept_len (N : Nat) : ∀ (l : List Sti) (k : KS), (keptK N k l).length ≤ l.length
  | [], k => Nat.le_refl _
  | x :: l, k => by
    rw [keptK]
    have := kept_len N l (doK N k x)
    split
    · rw [List.length_cons, List.length_cons]; omega
    · rw [List.length_cons]; omega

/-! ### no loop is lost -/
def sumTo (f : Nat → Nat) : Nat → Nat
  | 0 => 0
  | n + 1 => sumTo f n + f n
theorem sumTo_congr {f g : Nat → Nat} : ∀ n, (∀ i, i < n → f i = g i) → sumTo f n = sumTo g n
  | 0, _ => rfl
  | n + 1, h => by rw [sumTo, sumTo, sumTo_congr n (fun i hi => h i (by omega)), h n (by omega)]
theorem sumTo_set {f g : Nat → Nat} {j : Nat} : ∀ n, j < n → (∀ i, i ≠ j → f i = g i) → sumTo f n + g j = sumTo g n + f j
  | 0, h, _ => by omega
  | n + 1, h, hne => by
    rw [sumTo, sumTo]
    rcases Nat.lt_or_eq_of_le (Nat.le_of_lt_succ h) with h1 | rfl
    · have := sumTo_set n h1 hne
      have := hne n (by omega)
      omega
    · rw [sumTo_congr j (fun i hi => hne i (by omega))]; omega
theorem sumTo_zero {f : Nat → Nat} : ∀ n, (∀ i, i < n → f i = 0) → sumTo f n = 0
  | 0, _ => rfl
  | n + 1, h => by rw [sumTo, sumTo_zero n (fun i hi => h i (by omega)), h n (by omega)]
/-- how often x is held on a bed -/
def cntB (on : Int → Int → List Int) (b : Int) (x : Int) (N : Nat) : Nat := sumTo (fun n : Nat => (on b (n : Int)).count x) N
def cntL (ls : List Lop) (x : Int) : Nat := (ls.flatMap fun l => l.thr).count x
def cntK (N : Nat) (k : KS) (x : Int) : Nat := cntB k.on 0 x N + cntB k.on 1 x N + k.loose.count x + cntL k.loops x
theorem cntB_put {on : Int → Int → List Int} {b n : Int} {l : List Int} {x : Int} {N : Nat} (h : There N b n) (b' : Int) :
    cntB (put on b n l) b' x N + (if b' = b then (on b n).count x else 0) = cntB on b' x N + (if b' = b then l.count x else 0) := by
  unfold cntB
  by_cases hb : b' = b
  · subst hb
    rw [if_pos rfl, if_pos rfl]
    obtain ⟨j, hj⟩ : ∃ j : Nat, (j : Int) = n := ⟨n.toNat, Int.toNat_of_nonneg h.2.1⟩
    subst hj
    have := sumTo_set (f := fun n : Nat => (put on b' (j : Int) l b' (n : Int)).count x) (g := fun n : Nat => (on b' (n : Int)).count x) (j := j) N (by have := h.2.2; omega) (fun i hi => by
      rw [put_ne]
      intro e; exact hi (by omega))
    rw [put_same] at this
    omega
  · rw [if_neg hb, if_neg hb]
    exact congrArg (· + 0) (sumTo_congr N fun i _ => by rw [put_ne]; exact fun e => hb e.1)
theorem cnt_put {on : Int → Int → List Int} {b n : Int} {l : List Int} {x : Int} {N : Nat} (h : There N b n) :
    cntB (put on b n l) 0 x N + cntB (put on b n l) 1 x N + (on b n).count x = cntB on 0 x N + cntB on 1 x N + l.count x := by
  have h0 := cntB_put (on := on) (l := l) (x := x) h 0
  have h1 := cntB_put (on := on) (l := l) (x := x) h 1
  rcases h.1 with e | e
  · subst e
    rw [if_pos rfl, if_pos rfl] at h0
    rw [if_neg (by decide), if_neg (by decide)] at h1
    omega
  · subst e
    rw [if_pos rfl, if_pos rfl] at h1
    rw [if_neg (by decide), if_neg (by decide)] at h0
    omega
theorem cntL_snoc (ls : List Lop) (l : Lop) (x : Int) : cntL (ls ++ [l]) x = cntL ls x + l.thr.count x := by unfold cntL; rw [List.flatMap_append, List.count_append]; simp
/-- each loop is at one place -/
structure Once (N : Nat) (k : KS) : Prop where
  one : ∀ x : Int, cntK N k x = if 0 ≤ x ∧ x < (k.loops.length : Int) then 1 else 0
  back : ∀ i (h : i < k.loops.length), ∀ y ∈ k.loops[i].thr, 0 ≤ y ∧ y < (i : Int)
theorem once_zero (N : Nat) : Once N zeroK := by
  refine ⟨fun x => ?_, fun i h => by simp [zeroK] at h⟩
  have e : ∀ b, cntB zeroK.on b x N = 0 := fun b => sumTo_zero N fun i _ => rfl
  unfold cntK
  rw [e, e]
  have e2 : ((zeroK.loops.length : Nat) : Int) = 0 := rfl
  rw [e2, if_neg (by omega)]
  rfl
theorem Once.mem {N : Nat} {k : KS} (h : Once N k) {b n : Int} (ht : There N b n) {y : Int} (hy : y ∈ k.on b n) : 0 ≤ y ∧ y < (k.loops.length : Int) := by
  have h1 := h.one y
  by_cases c : 0 ≤ y ∧ y < (k.loops.length : Int)
  · exact c
  · rw [if_neg c] at h1
    have h2 := cnt_put (on := k.on) (l := []) (x := y) ht
    have h3 : 0 < (k.on b n).count y := List.count_pos_iff.2 hy
    unfold cntK at h1
    rw [List.count_nil] at h2
    omega
theorem once_step {N : Nat} {k : KS} {x : Sti} (ho : Once N k) (h : wrongK N k x = 0) : Once N (stepK k x) := by
  obtain ⟨w1, w2, w3, w4, w5, w6, w7, w8, w9⟩ := wrong_bounds h
  have hsame : ∀ (on : Int → Int → List Int) (lo : List Int) (r : Int) (d : Nat), (∀ y, cntB on 0 y N + cntB on 1 y N + lo.count y = cntB k.on 0 y N + cntB k.on 1 y N + k.loose.count y) → Once N ⟨k.loops, on, lo, r, d⟩ := fun on lo r d he => by
    refine ⟨fun y => ?_, ho.back⟩
    have := ho.one y
    have := he y
    unfold cntK at *
    dsimp only
    omega
  have hmore : ∀ (on : Int → Int → List Int) (d : Nat) (t : List Int), (∀ y ∈ t, 0 ≤ y ∧ y < (k.loops.length : Int)) → (∀ y, cntB on 0 y N + cntB on 1 y N + t.count y = cntB k.on 0 y N + cntB k.on 1 y N + if y = (k.loops.length : Int) then 1 else 0) → Once N ⟨k.loops ++ [⟨x.c, t⟩], on, k.loose, k.rack, d⟩ := fun on d t ht he => by
    refine ⟨fun y => ?_, fun i hi => ?_⟩
    · have h1 := ho.one y
      have h2 := he y
      unfold cntK at *
      dsimp only
      rw [cntL_snoc, List.length_append, List.length_singleton]
      dsimp only
      split at h2 <;> split at h1 <;> split <;> omega
    · dsimp only at hi ⊢
      rw [List.length_append, List.length_singleton] at hi
      by_cases c : i < k.loops.length
      · rw [List.getElem_append_left c]; exact ho.back i c
      · obtain rfl : i = k.loops.length := by omega
        rw [List.getElem_append_right (by omega)]
        simpa using ht
  unfold stepK
  split
  · exact hsame _ _ _ _ fun y => rfl
  next h6 =>
  have ht := w5 h6
  split
  · refine hmore _ _ _ (fun y hy => ho.mem ht hy) fun y => ?_
    have := cnt_put (on := k.on) (l := [(k.loops.length : Int)]) (x := y) ht
    rw [List.count_singleton] at this
    by_cases c : y = (k.loops.length : Int)
    · subst c; simp at this ⊢; omega
    · have c2 : ((k.loops.length : Int) == y) = false := by simp; omega
      rw [c2] at this
      rw [if_neg c]
      simp at this
      omega
  split
  · refine hmore _ _ _ (fun y hy => by cases hy) fun y => ?_
    have := cnt_put (on := k.on) (l := k.on x.b x.n ++ [(k.loops.length : Int)]) (x := y) ht
    rw [List.count_append, List.count_singleton] at this
    by_cases c : y = (k.loops.length : Int)
    · subst c; simp at this ⊢; omega
    · have c2 : ((k.loops.length : Int) == y) = false := by simp; omega
      rw [c2] at this
      rw [if_neg c]
      simp at this ⊢
      omega
  split
  · refine hsame _ _ _ _ fun y => ?_
    have hf := (w7 (by assumption)).1
    have h1 := cnt_put (on := k.on) (l := k.on (fB x.b) (fN k.rack x.b x.n) ++ k.on x.b x.n) (x := y) hf
    have h2 := cnt_put (on := put k.on (fB x.b) (fN k.rack x.b x.n) (k.on (fB x.b) (fN k.rack x.b x.n) ++ k.on x.b x.n)) (l := []) (x := y) ht
    rw [put_ne _ _ (fun e => fB_ne ht.1 e.1.symm), List.count_nil] at h2
    rw [List.count_append] at h1
    omega
  split
  · refine hsame _ _ _ _ fun y => ?_
    have h2 := cnt_put (on := k.on) (l := []) (x := y) ht
    rw [List.count_nil] at h2
    rw [List.count_append]
    omega
  · exact hsame _ _ _ _ fun y => rfl
theorem once_fold {N : Nat} : ∀ (l : List Sti) (k : KS), Once N k → Once N (l.foldl (doK N) k)
  | [], k, h => h
  | x :: l, k, h => by
    refine once_fold l _ ?_
    unfold doK; split
    · exact once_step h (by assumption)
    · exact h
theorem once_after (N : Nat) (l : List Sti) : Once N (afterK N l) := once_fold l _ (once_zero N)
theorem count_front (on : Int → Int → List Int) (b x : Int) : ∀ N : Nat, (((List.range N).map fun n : Nat => on b (n : Int)).flatMap id).count x = cntB on b x N
  | 0 => rfl
  | n + 1 => by
    rw [List.range_succ, List.map_append, List.flatMap_append, List.count_append, count_front on b x n]
    unfold cntB
    rw [sumTo]
    simp
/-- all that is told, one behind the other -/
def allOf (k : Kn) : List Int := k.front.flatMap id ++ k.back.flatMap id ++ k.loose ++ k.loops.flatMap fun l => l.thr
theorem count_all (N : Nat) (k : KS) (x : Int) : (allOf (told N k)).count x = cntK N k x := by
  unfold allOf told cntK cntL
  dsimp only
  rw [List.count_append, List.count_append, List.count_append, count_front, count_front]
end Go.Proofs.Ytaacfjeddoekfaa
/- Chapter 12, plain: loops numbered along their yarns. -/
namespace Go.Proofs.Ytaacfjeddoekfaa
set_option linter.unusedVariables false

/-- loop i comes ahead of loop x along the yarns -/
def aheadB (cs : List Int) (x i : Nat) : Bool := decide (cs.getD i 0 < cs.getD x 0 ∨ (cs.getD i 0 = cs.getD x 0 ∧ i < x))
theorem ahead_iff (cs : List Int) (x i : Nat) : aheadB cs x i = true ↔ cs.getD i 0 < cs.getD x 0 ∨ (cs.getD i 0 = cs.getD x 0 ∧ i < x) := by unfold aheadB; exact decide_eq_true_iff
theorem ahead_asym {cs : List Int} {x i : Nat} (h : aheadB cs x i = true) : aheadB cs i x = false := by
  rw [ahead_iff] at h
  unfold aheadB
  rw [decide_eq_false_iff_not]
  omega
theorem ahead_self (cs : List Int) (x : Nat) : aheadB cs x x = false := by unfold aheadB; rw [decide_eq_false_iff_not]; omega
/-- how many loops come ahead -/
def num (cs : List Int) (x : Nat) : Nat := (List.range cs.length).countP (aheadB cs x)
theorem perm_range {n : Nat} {σ τ : Nat → Nat} (hst : ∀ k, σ (τ k) = k) (hts : ∀ k, τ (σ k) = k) (hlt : ∀ k, k < n → σ k < n) (hlt' : ∀ k, k < n → τ k < n) : ((List.range n).map σ).Perm (List.range n) := by
  have inj : ∀ a b, σ a = σ b → a = b := fun a b e => by have := congrArg τ e; rwa [hts, hts] at this
  rw [List.perm_ext_iff_of_nodup]
  · intro a
    simp only [List.mem_map, List.mem_range]
    constructor
    · rintro ⟨k, hk, rfl⟩; exact hlt k hk
    · intro ha; exact ⟨τ a, hlt' a ha, hst a⟩
  · unfold List.Nodup
    rw [List.pairwise_map]
    exact List.Pairwise.imp (fun h e => h (inj _ _ e)) List.nodup_range
  · exact List.nodup_range
theorem countP_lt (n t : Nat) (h : t ≤ n) : (List.range n).countP (fun s => decide (s < t)) = t := by
  induction n with
  | zero => simp; omega
  | succ n ih =>
    rw [List.range_succ, List.countP_append]
    rcases Nat.lt_or_eq_of_le h with h1 | rfl
    · rw [ih (by omega)]; simp; omega
    · have : (List.range n).countP (fun s => decide (s < n + 1)) = n := by
        rw [List.countP_eq_length.2 (fun a ha => by simp at ha ⊢; omega), List.length_range]
      rw [this]; simp
/-- the order that sorting finds is that of the numbers -/
theorem num_sorted {cs : List Int} {σ τ : Nat → Nat} (hst : ∀ k, σ (τ k) = k) (hts : ∀ k, τ (σ k) = k) (hlt : ∀ k, k < cs.length → σ k < cs.length) (hlt' : ∀ k, k < cs.length → τ k < cs.length)
    (hsd : ∀ s t, s < t → t < cs.length → aheadB cs (σ t) (σ s) = true) {t : Nat} (ht : t < cs.length) : num cs (σ t) = t := by
  unfold num
  rw [← (perm_range hst hts hlt hlt').countP_eq, List.countP_map]
  have : ((List.range cs.length).countP (aheadB cs (σ t) ∘ σ)) = (List.range cs.length).countP (fun s => decide (s < t)) := by
    refine List.countP_congr fun s hs => ?_
    have hs' : s < cs.length := by simpa using hs
    show aheadB cs (σ t) (σ s) = true ↔ decide (s < t) = true
    rw [decide_eq_true_iff]
    rcases Nat.lt_trichotomy s t with h | rfl | h
    · exact ⟨fun _ => h, fun _ => hsd s t h ht⟩
    · rw [ahead_self]; exact ⟨(fun h => by cases h), (fun h => by omega)⟩
    · rw [ahead_asym (hsd t s h hs')]; exact ⟨(fun h => by cases h), (fun h' => by omega)⟩
  rw [this, countP_lt _ _ (by omega)]
/-- a renaming that keeps carriers, and the order of each one's loops, keeps the numbers -/
theorem num_turn {cs cs' : List Int} {π : Nat → Nat} (hππ : ∀ k, π (π k) = k) (hlen : cs'.length = cs.length) (hlt : ∀ k, k < cs.length → π k < cs.length) (hc : ∀ i, i < cs.length → cs'.getD (π i) 0 = cs.getD i 0)
    (ho : ∀ i j, i < cs.length → j < cs.length → cs.getD i 0 = cs.getD j 0 → (i < j ↔ π i < π j)) {x : Nat} (hx : x < cs.length) : num cs' (π x) = num cs x := by
  unfold num
  rw [hlen, ← (perm_range hππ hππ hlt hlt).countP_eq, List.countP_map]
  refine List.countP_congr fun i hi => ?_
  have hi' : i < cs.length := by simpa using hi
  show aheadB cs' (π x) (π i) = true ↔ aheadB cs x i = true
  rw [ahead_iff, ahead_iff, hc i hi', hc x hx]
  constructor
  · rintro (h | ⟨h1, h2⟩)
    · exact .inl h
    · exact .inr ⟨h1, (ho i x hi' hx h1).2 h2⟩
  · rintro (h | ⟨h1, h2⟩)
    · exact .inl h
    · exact .inr ⟨h1, (ho i x hi' hx h1).1 h2⟩
theorem num_lt {cs : List Int} {x : Nat} (hx : x < cs.length) : num cs x < cs.length := by
  unfold num
  rcases Nat.lt_or_ge ((List.range cs.length).countP (aheadB cs x)) cs.length with h | h
  · exact h
  · exfalso
    have e : (List.range cs.length).countP (aheadB cs x) = (List.range cs.length).length := by
      have := List.countP_le_length (p := aheadB cs x) (l := List.range cs.length)
      rw [List.length_range] at *
      omega
    have := List.countP_eq_length.1 e x (by simpa using hx)
    rw [ahead_self] at this
    cases this
end Go.Proofs.Ytaacfjeddoekfaa
/- Chapter 12, plain: what cloth is made, its loops numbered along their yarns; renamed loops make the same cloth. -/
namespace Go.Proofs.Ytaacfjeddoekfaa
set_option linter.unusedVariables false

theorem ahead_trans {cs : List Int} {x y i : Nat} (h : aheadB cs x i = true) (k : aheadB cs y x = true) : aheadB cs y i = true := by
  rw [ahead_iff] at *
  omega
theorem ahead_total {cs : List Int} {x y : Nat} (h : x ≠ y) : aheadB cs y x = true ∨ aheadB cs x y = true := by
  rw [ahead_iff, ahead_iff]
  omega
theorem countP_ahead {cs : List Int} {x y : Nat} (h : aheadB cs y x = true) : ∀ m, (List.range m).countP (aheadB cs x) + (if x < m then 1 else 0) ≤ (List.range m).countP (aheadB cs y)
  | 0 => by simp
  | m + 1 => by
    have ih := countP_ahead h m
    rw [List.range_succ, List.countP_append, List.countP_append, List.countP_singleton, List.countP_singleton]
    by_cases e : m = x
    · subst e
      rw [h, ahead_self, if_pos (by omega : m < m + 1)]
      rw [if_neg (by omega : ¬ m < m)] at ih
      simp
      omega
    · have e4 : (if x < m + 1 then 1 else 0) = (if x < m then 1 else 0) := by
        by_cases c : x < m
        · rw [if_pos c, if_pos (by omega)]
        · rw [if_neg c, if_neg (by omega)]
      rw [e4]
      generalize (if x < m then 1 else 0) = z at *
      by_cases e2 : aheadB cs x m = true
      · rw [e2, ahead_trans e2 h]
        simp only [if_true]
        omega
      · have e3 : aheadB cs x m = false := by simpa using e2
        rw [e3]
        simp only [Bool.false_eq_true, if_false]
        omega
theorem num_ahead {cs : List Int} {x y : Nat} (hx : x < cs.length) (h : aheadB cs y x = true) : num cs x < num cs y := by
  have := countP_ahead h cs.length
  rw [if_pos hx] at this
  unfold num
  omega
theorem num_inj {cs : List Int} {x y : Nat} (hx : x < cs.length) (hy : y < cs.length) (h : num cs x = num cs y) : x = y := by
  rcases Nat.decEq x y with hne | e
  · exfalso
    rcases ahead_total (cs := cs) hne with k | k
    · have := num_ahead hx k; omega
    · have := num_ahead hy k; omega
  · exact e
theorem pigeon : ∀ (n : Nat) (f : Nat → Nat), (∀ x, x < n → f x < n) → (∀ x y, x < n → y < n → f x = f y → x = y) → ∀ t, t < n → ∃ x, x < n ∧ f x = t
  | 0, f, _, _, t, ht => by omega
  | n + 1, f, hlt, hinj, t, ht => by
    have hm := hlt n (by omega)
    have ih := pigeon n (fun x => if f x = n then f n else f x) (fun x hx => by
      have h1 := hlt x (by omega)
      split
      · next e =>
        have : f n ≠ n := fun e2 => by have := hinj x n (by omega) (by omega) (e.trans e2.symm); omega
        omega
      · omega) (fun x y hx hy e => by
      by_cases e1 : f x = n
      · by_cases e2 : f y = n
        · exact hinj x y (by omega) (by omega) (e1.trans e2.symm)
        · rw [if_pos e1, if_neg e2] at e
          have := hinj n y (by omega) (by omega) e
          omega
      · by_cases e2 : f y = n
        · rw [if_neg e1, if_pos e2] at e
          have := hinj x n (by omega) (by omega) e
          omega
        · rw [if_neg e1, if_neg e2] at e
          exact hinj x y (by omega) (by omega) e)
    by_cases h1 : t = f n
    · exact ⟨n, by omega, h1.symm⟩
    · by_cases h2 : t = n
      · subst h2
        have hmt : f t < t := by omega
        obtain ⟨x, hx, e⟩ := ih (f t) hmt
        split at e
        · next e2 => exact ⟨x, by omega, e2⟩
        · have := hinj x t (by omega) (by omega) e
          omega
      · obtain ⟨x, hx, e⟩ := ih t (by omega)
        split at e
        · exact absurd e.symm h1
        · exact ⟨x, by omega, e⟩
/-- which loop has a number -/
def inv (cs : List Int) (t : Nat) : Nat := ((List.range cs.length).find? fun x => num cs x == t).getD 0
theorem inv_spec {cs : List Int} {t : Nat} (ht : t < cs.length) : inv cs t < cs.length ∧ num cs (inv cs t) = t := by
  obtain ⟨x, hx, e⟩ := pigeon cs.length (num cs) (fun x hx => num_lt hx) (fun x y hx hy h => num_inj hx hy h) t ht
  unfold inv
  cases h : (List.range cs.length).find? fun x => num cs x == t with
  | none =>
    have := List.find?_eq_none.1 h x (by simpa using hx)
    simp [e] at this
  | some y =>
    have h1 := List.find?_some h
    have h2 := List.mem_of_find?_eq_some h
    simp at h1 h2 ⊢
    exact ⟨h2, h1⟩
theorem inv_num {cs : List Int} {x : Nat} (hx : x < cs.length) : inv cs (num cs x) = x := by
  have := inv_spec (num_lt hx)
  exact num_inj this.1 hx this.2
theorem inv_eq {cs : List Int} {x t : Nat} (hx : x < cs.length) (h : num cs x = t) : inv cs t = x := by rw [← h, inv_num hx]
theorem inv_perm (cs : List Int) : ((List.range cs.length).map (inv cs)).Perm (List.range cs.length) := by
  rw [List.perm_ext_iff_of_nodup]
  · intro a
    simp only [List.mem_map, List.mem_range]
    constructor
    · rintro ⟨k, hk, rfl⟩; exact (inv_spec hk).1
    · intro ha; exact ⟨num cs a, num_lt ha, inv_num ha⟩
  · unfold List.Nodup
    rw [List.pairwise_map]
    refine List.Pairwise.imp_of_mem (fun {a b} ha hb h e => h ?_) List.nodup_range
    have h1 := (inv_spec (cs := cs) (t := a) (by simpa using ha)).2
    have h2 := (inv_spec (cs := cs) (t := b) (by simpa using hb)).2
    rw [← h1, ← h2, e]
  · exact List.nodup_range
theorem range_map_getD (cs : List Int) : (List.range cs.length).map (fun i => cs.getD i 0) = cs := by
  apply List.ext_getElem
  · simp
  · intro i h1 h2; simp [h2]
theorem inv_cars (cs : List Int) : ((List.range cs.length).map fun t => cs.getD (inv cs t) 0).Perm cs := by
  have h := (inv_perm cs).map fun i => cs.getD i 0
  rw [range_map_getD, List.map_map] at h
  exact h
/-- along the yarns the carriers rise -/
theorem inv_rise {cs : List Int} {s t : Nat} (hst : s < t) (ht : t < cs.length) : cs.getD (inv cs s) 0 ≤ cs.getD (inv cs t) 0 := by
  have h1 := inv_spec (cs := cs) (t := s) (by omega)
  have h2 := inv_spec ht
  rcases Int.lt_or_le (cs.getD (inv cs t) 0) (cs.getD (inv cs s) 0) with h | h
  · have := num_ahead (cs := cs) (x := inv cs t) (y := inv cs s) h2.1 ((ahead_iff _ _ _).2 (.inl h))
    omega
  · exact h

def cars (ls : List Lop) : List Int := ls.map Lop.car
theorem cars_len (ls : List Lop) : (cars ls).length = ls.length := List.length_map ..
theorem cars_get (ls : List Lop) (i : Nat) : (cars ls).getD i 0 = (ls.getD i noLop).car := by
  unfold cars
  rw [List.getD_eq_getElem?_getD, List.getElem?_map, List.getD_eq_getElem?_getD]
  cases ls[i]? <;> rfl
def nm (cs : List Int) (x : Int) : Int := (num cs x.toNat : Int)
def leZ (x y : Int) : Bool := decide (x ≤ y)
/-- the cloth of what was knitted -/
def cloth (k : Kn) : Kn :=
  ⟨(List.range k.loops.length).map fun t => ⟨(k.loops.getD (inv (cars k.loops) t) noLop).car, (k.loops.getD (inv (cars k.loops) t) noLop).thr.map (nm (cars k.loops))⟩,
   k.front.map (List.map (nm (cars k.loops))), k.back.map (List.map (nm (cars k.loops))), (k.loose.map (nm (cars k.loops))).mergeSort fun x y => decide (x ≤ y), k.rack⟩
theorem cloth_loops_len (k : Kn) : (cloth k).loops.length = k.loops.length := by simp [cloth]
theorem cloth_cars (k : Kn) : (cars (cloth k).loops).Perm (cars k.loops) := by
  have h := inv_cars (cars k.loops)
  have e : cars (cloth k).loops = (List.range (cars k.loops).length).map fun t => (cars k.loops).getD (inv (cars k.loops) t) 0 := by
    rw [cars_len]
    show List.map Lop.car (List.map _ _) = _
    rw [List.map_map]
    refine List.map_congr_left fun t _ => ?_
    rw [cars_get]; rfl
  rw [e]; exact h
theorem cloth_rise {k : Kn} {i : Nat} (h : i + 1 < k.loops.length) : ((cloth k).loops.getD i noLop).car ≤ ((cloth k).loops.getD (i + 1) noLop).car := by
  have e : ∀ t, t < k.loops.length → ((cloth k).loops.getD t noLop).car = (cars k.loops).getD (inv (cars k.loops) t) 0 := fun t ht => by
    rw [cars_get]
    unfold cloth
    simp [ht]
  rw [e i (by omega), e (i + 1) h]
  exact inv_rise (by omega) (by rw [cars_len]; exact h)

theorem mergeSort_perm_eq {l l' : List Int} (h : l.Perm l') : l.mergeSort (fun x y => decide (x ≤ y)) = l'.mergeSort fun x y => decide (x ≤ y) := by
  have tr : ∀ a b c : Int, decide (a ≤ b) = true → decide (b ≤ c) = true → decide (a ≤ c) = true := fun a b c h1 h2 => by simp at *; omega
  have tt : ∀ a b : Int, (decide (a ≤ b) || decide (b ≤ a)) = true := fun a b => by simp; omega
  refine List.Perm.eq_of_pairwise (le := fun x y => decide (x ≤ y) = true) (fun a b _ _ h1 h2 => by simp at h1 h2; omega) (List.pairwise_mergeSort tr tt l) (List.pairwise_mergeSort tr tt l') ?_
  exact (List.mergeSort_perm l _).trans (h.trans (List.mergeSort_perm l' _).symm)

/-! ### renamed loops -/
/-- the same, but that loops bear other numbers -/
structure Ren (π : Nat → Nat) (n : Nat) (k k' : Kn) : Prop where
  ππ : ∀ i, π (π i) = i
  lt : ∀ i, i < n → π i < n
  len : k.loops.length = n
  len' : k'.loops.length = n
  car : ∀ i, i < n → (k'.loops.getD (π i) noLop).car = (k.loops.getD i noLop).car
  thr : ∀ i, i < n → (k'.loops.getD (π i) noLop).thr = (k.loops.getD i noLop).thr.map fun x => (π x.toNat : Int)
  ord : ∀ i j, i < n → j < n → (k.loops.getD i noLop).car = (k.loops.getD j noLop).car → (i < j ↔ π i < π j)
  front : k'.front = k.front.map (List.map fun x => (π x.toNat : Int))
  back : k'.back = k.back.map (List.map fun x => (π x.toNat : Int))
  loose : k'.loose.Perm (k.loose.map fun x => (π x.toNat : Int))
  rack : k'.rack = k.rack
/-- all loops that are told of are there -/
structure Told (k : Kn) : Prop where
  thr : ∀ i, i < k.loops.length → ∀ x ∈ (k.loops.getD i noLop).thr, 0 ≤ x ∧ x < (k.loops.length : Int)
  front : ∀ l ∈ k.front, ∀ x ∈ l, 0 ≤ x ∧ x < (k.loops.length : Int)
  back : ∀ l ∈ k.back, ∀ x ∈ l, 0 ≤ x ∧ x < (k.loops.length : Int)
  loose : ∀ x ∈ k.loose, 0 ≤ x ∧ x < (k.loops.length : Int)
theorem cloth_ren {π : Nat → Nat} {n : Nat} {k k' : Kn} (h : Ren π n k k') (ht : Told k) : cloth k' = cloth k := by
  have hl : (cars k.loops).length = n := by rw [cars_len, h.len]
  have hl' : (cars k'.loops).length = n := by rw [cars_len, h.len']
  have hnum : ∀ x, x < n → num (cars k'.loops) (π x) = num (cars k.loops) x := fun x hx =>
    num_turn h.ππ (by rw [hl, hl']) (by rw [hl]; exact h.lt) (fun i hi => by rw [cars_get, cars_get]; exact h.car i (by omega)) (fun i j hi hj e => by rw [cars_get, cars_get] at e; exact h.ord i j (by omega) (by omega) e) (by omega)
  have hnm : ∀ l : List Int, (∀ x ∈ l, 0 ≤ x ∧ x < (k.loops.length : Int)) → (l.map fun x => (π x.toNat : Int)).map (nm (cars k'.loops)) = l.map (nm (cars k.loops)) := fun l hl => by
    rw [List.map_map]
    refine List.map_congr_left fun x hx => ?_
    have := hl x hx
    show nm _ _ = _
    unfold nm
    rw [Int.toNat_natCast, hnum _ (by have := h.len; omega)]
  have hinv : ∀ t, t < n → inv (cars k'.loops) t = π (inv (cars k.loops) t) := fun t htn => by
    have h1 := inv_spec (cs := cars k.loops) (t := t) (by omega)
    exact inv_eq (by rw [hl']; exact h.lt _ (by omega)) (by rw [hnum _ (by omega), h1.2])
  have hlists : ∀ (a b : List (List Int)), (∀ l ∈ a, ∀ x ∈ l, 0 ≤ x ∧ x < (k.loops.length : Int)) → b = a.map (List.map fun x => (π x.toNat : Int)) → b.map (List.map (nm (cars k'.loops))) = a.map (List.map (nm (cars k.loops))) := fun a b ha hb => by
    rw [hb, List.map_map]
    exact List.map_congr_left fun l hl => hnm l (ha l hl)
  unfold cloth
  congr 1
  · rw [h.len', h.len]
    refine List.map_congr_left fun t htt => ?_
    have htn : t < n := by simpa using htt
    have h1 := inv_spec (cs := cars k.loops) (t := t) (by omega)
    rw [hinv t htn, h.car _ (by omega), h.thr _ (by omega), hnm _ (ht.thr _ (by rw [h.len]; omega))]
  · exact hlists _ _ ht.front h.front
  · exact hlists _ _ ht.back h.back
  · refine mergeSort_perm_eq ?_
    rw [← hnm _ ht.loose]
    exact h.loose.map _
  · exact h.rack
end Go.Proofs.Ytaacfjeddoekfaa
/- Chapter 12, plain: what is left out by tidying was not needed; how many loops each yarn has. -/
namespace Go.Proofs.Ytaacfjeddoekfaa
set_option linter.unusedVariables false

/-- no stitch of a list is wrong -/
def Flawless (N : Nat) (l : List Sti) : Prop := ∀ e ∈ errsK N zeroK l, e = 0
theorem good_run {N : Nat} {l : List Sti} (h : Flawless N l) : runF N l = (0, 0) ∧ runK N l = told N (afterK N l) := by
  have := firstBad_none h
  unfold runF runK
  rw [this]
  exact ⟨rfl, rfl⟩
theorem bad_first : ∀ {l : List Int}, (¬ ∀ e ∈ l, e = 0) → ∃ e i, e ≠ 0 ∧ firstBad l = some (e, i)
  | [], h => absurd (fun e he => by cases he) h
  | e :: l, h => by
    by_cases c : e = 0
    · obtain ⟨e', i, h1, h2⟩ := bad_first (l := l) fun hl => h fun x hx => by
        rcases List.mem_cons.1 hx with r | r
        · rw [r, c]
        · exact hl x r
      exact ⟨e', i + 1, h1, by rw [firstBad, if_neg (fun k => k c), h2]; rfl⟩
    · exact ⟨e, 0, c, by rw [firstBad, if_pos c]⟩
theorem run_good {N : Nat} {l : List Sti} (h : (runF N l).1 = 0) : Flawless N l := by
  refine Classical.byContradiction fun hn => ?_
  obtain ⟨e, i, h1, h2⟩ := bad_first hn
  unfold runF at h
  rw [h2] at h
  exact h1 h
theorem run_bad {N : Nat} {l : List Sti} (h : (runF N l).1 ≠ 0) : runK N l = noKn := by
  unfold runF at h
  unfold runK
  cases e : firstBad (errsK N zeroK l) with
  | none => rw [e] at h; exact absurd rfl h
  | some p => rfl
theorem do_good {N : Nat} {k : KS} {x : Sti} (h : wrongK N k x = 0) : doK N k x = stepK k x := by unfold doK; rw [if_pos h]

/-! ### tidying -/
/-- is what comes next, misses aside, a rack? -/
def nextRack : List Sti → Bool
  | [] => false
  | x :: l => if x.d = 3 then nextRack l else decide (x.d = 6)
def tidyK : Int → List Sti → List Sti
  | _, [] => []
  | r, x :: l => if x.d = 3 then tidyK r l else if x.d = 6 then (if x.t = r ∨ nextRack l = true then tidyK r l else x :: tidyK x.t l) else x :: tidyK r l
theorem tidy_len : ∀ (l : List Sti) (r : Int), (tidyK r l).length ≤ l.length
  | [], r => Nat.le_refl _
  | x :: l, r => by
    have h1 := tidy_len l r
    have h2 := tidy_len l x.t
    unfold tidyK
    split
    · rw [List.length_cons]; omega
    split
    · split
      · rw [List.length_cons]; omega
      · rw [List.length_cons, List.length_cons]; omega
    · rw [List.length_cons, List.length_cons]; omega
theorem next_tidy : ∀ (l : List Sti) (r : Int), nextRack l = false → nextRack (tidyK r l) = false
  | [], r, h => h
  | x :: l, r, h => by
    unfold nextRack at h
    unfold tidyK
    split
    · next e => rw [if_pos e] at h; exact next_tidy l r h
    next e =>
    rw [if_neg e, decide_eq_false_iff_not] at h
    rw [if_neg h]
    unfold nextRack
    rw [if_neg e, decide_eq_false_iff_not]
    exact h
theorem tidy_twice : ∀ (l : List Sti) (r : Int), tidyK r (tidyK r l) = tidyK r l
  | [], r => rfl
  | x :: l, r => by
    have h1 := tidy_twice l r
    have h2 := tidy_twice l x.t
    rw [tidyK]
    split
    · exact h1
    next e3 =>
    split
    · next e6 =>
      split
      · exact h1
      · next hn =>
        rw [tidyK, if_neg e3, if_pos e6, if_neg, h2]
        rintro (c | c)
        · exact hn (.inl c)
        · rw [next_tidy l _ (by
            cases k : nextRack l with
            | false => rfl
            | true => exact absurd (.inr k) hn)] at c
          cases c
    · next e6 => rw [tidyK, if_neg e3, if_neg e6, h1]
/-- what was knitted, rack and count aside -/
structure Alike (k k' : KS) : Prop where
  loops : k'.loops = k.loops
  on : k'.on = k.on
  loose : k'.loose = k.loose
  done : k'.done ≤ k.done
theorem wrong_same {N : Nat} {k k' : KS} {x : Sti} (ha : Alike k k') (hr : x.d ≠ 6 → k'.rack = k.rack) (h : wrongK N k x = 0) : wrongK N k' x = 0 := by
  have hd := (wrong_bounds h).2.2.1
  have := ha.done
  unfold wrongK at h ⊢
  have e1 : k'.ln x = k.ln x := by unfold KS.ln; rw [ha.on]
  by_cases h6 : x.d = 6
  · rw [if_neg (by omega), if_neg (by omega), if_pos h6]
    rw [if_neg (by omega), if_neg (by omega), if_pos h6] at h
    exact h
  · have e2 : k'.lf x = k.lf x := by unfold KS.lf; rw [ha.on, hr h6]
    rw [e1, e2, hr h6, if_neg (by omega : ¬ 4096 ≤ k'.done)]
    rw [if_neg (by omega : ¬ 4096 ≤ k.done)] at h
    exact h
theorem step_same {k k' : KS} {x : Sti} (ha : Alike k k') (hr : k'.rack = k.rack) : Alike (stepK k x) (stepK k' x) ∧ (stepK k' x).rack = (stepK k x).rack := by
  obtain ⟨a1, a2, a3, a4⟩ := ha
  unfold stepK
  rw [a1, a2, a3, hr]
  have hd : k'.done + 1 ≤ k.done + 1 := by omega
  (repeat' split) <;> exact ⟨⟨rfl, rfl, rfl, hd⟩, rfl⟩
theorem tidy_run {N : Nat} : ∀ (l : List Sti) (r : Int) (k k' : KS), Alike k k' → k'.rack = r → (k.rack = r ∨ nextRack l = true) → (∀ e ∈ errsK N k l, e = 0) →
    (∀ e ∈ errsK N k' (tidyK r l), e = 0) ∧ told N ((tidyK r l).foldl (doK N) k') = told N (l.foldl (doK N) k)
  | [], r, k, k', ha, hr, hp, hg => by
    refine ⟨hg, ?_⟩
    have hk : k.rack = r := hp.resolve_right (fun c => by cases c)
    show told N k' = told N k
    unfold told
    rw [ha.loops, ha.on, ha.loose, hr, hk]
  | x :: l, r, k, k', ha, hr, hp, hg => by
    rw [errsK] at hg
    have hw := hg _ (List.mem_cons_self ..)
    have hl : ∀ e ∈ errsK N (stepK k x) l, e = 0 := fun e he => hg e (List.mem_cons_of_mem _ (by rw [do_good hw]; exact he))
    rw [List.foldl_cons, do_good hw]
    have hsk : x.d = 3 ∨ x.d = 6 → Alike (stepK k x) k' ∧ (x.d = 3 → (stepK k x).rack = k.rack) ∧ (x.d = 6 → (stepK k x).rack = x.t) := fun h => by
      have := ha.done
      rcases h with h | h
      · unfold stepK
        rw [if_neg (by omega), if_neg (by omega), if_neg (by omega), if_neg (by omega), if_neg (by omega)]
        exact ⟨⟨ha.loops, ha.on, ha.loose, by dsimp only; omega⟩, fun _ => rfl, fun c => by omega⟩
      · unfold stepK
        rw [if_pos h]
        exact ⟨⟨ha.loops, ha.on, ha.loose, by dsimp only; omega⟩, fun c => by omega, fun _ => rfl⟩
    rw [tidyK]
    by_cases h3 : x.d = 3
    · rw [if_pos h3]
      obtain ⟨s1, s2, _⟩ := hsk (.inl h3)
      refine tidy_run l r _ k' s1 hr ?_ hl
      rw [s2 h3]
      rcases hp with c | c
      · exact .inl c
      · rw [nextRack, if_pos h3] at c; exact .inr c
    rw [if_neg h3]
    by_cases h6 : x.d = 6
    · rw [if_pos h6]
      obtain ⟨s1, _, s2⟩ := hsk (.inr h6)
      by_cases hc : x.t = r ∨ nextRack l = true
      · rw [if_pos hc]
        refine tidy_run l r _ k' s1 hr ?_ hl
        rw [s2 h6]
        exact hc
      · rw [if_neg hc]
        have hw' : wrongK N k' x = 0 := wrong_same ha (fun c => absurd h6 c) hw
        have hk' : Alike (stepK k x) (stepK k' x) ∧ (stepK k' x).rack = x.t := by
          unfold stepK
          rw [if_pos h6, if_pos h6]
          exact ⟨⟨ha.loops, ha.on, ha.loose, by have := ha.done; dsimp only; omega⟩, rfl⟩
        have := tidy_run l x.t _ _ hk'.1 hk'.2 (.inl (s2 h6)) hl
        rw [errsK, List.foldl_cons, do_good hw']
        refine ⟨fun e he => ?_, this.2⟩
        rcases List.mem_cons.1 he with c | c
        · rw [c, hw']
        · exact this.1 e c
    · rw [if_neg h6]
      have hk : k.rack = r := hp.resolve_right fun c => by
        rw [nextRack, if_neg h3, decide_eq_true_iff] at c
        exact h6 c
      have hrk : k'.rack = k.rack := by rw [hr, hk]
      have hw' : wrongK N k' x = 0 := wrong_same ha (fun _ => hrk) hw
      have hs := step_same (x := x) ha hrk
      have hrr : (stepK k x).rack = k.rack := by unfold stepK; rw [if_neg h6]; (repeat' split) <;> rfl
      have := tidy_run l r _ _ hs.1 (by rw [hs.2, hrr, hk]) (.inl (by rw [hrr, hk])) hl
      rw [errsK, List.foldl_cons, do_good hw']
      refine ⟨fun e he => ?_, this.2⟩
      rcases List.mem_cons.1 he with c | c
      · rw [c, hw']
      · exact this.1 e c
theorem tidy_good {N : Nat} {l : List Sti} (h : Flawless N l) : Flawless N (tidyK 0 l) ∧ told N (afterK N (tidyK 0 l)) = told N (afterK N l) :=
  tidy_run l 0 zeroK zeroK ⟨rfl, rfl, rfl, Nat.le_refl _⟩ rfl (.inl rfl) h

/-! ### how many loops each yarn has -/
def yarnK (x : Sti) : Bool := decide (x.d = 1 ∨ x.d = 2)
theorem step_cars (k : KS) (x : Sti) : cars (stepK k x).loops = cars k.loops ++ (if yarnK x = true then [x.c] else []) := by
  unfold stepK cars yarnK
  by_cases h6 : x.d = 6
  · rw [if_pos h6]; simp; omega
  rw [if_neg h6]
  by_cases h1 : x.d = 1
  · rw [if_pos h1]; simp [h1]
  rw [if_neg h1]
  by_cases h2 : x.d = 2
  · rw [if_pos h2]; simp [h2]
  rw [if_neg h2]
  (repeat' split) <;> first | (simp; done) | (simp at *; omega)
theorem good_cars {N : Nat} : ∀ (l : List Sti) (k : KS), (∀ e ∈ errsK N k l, e = 0) → cars (l.foldl (doK N) k).loops = cars k.loops ++ (l.filter yarnK).map Sti.c
  | [], k, _ => by simp
  | x :: l, k, hg => by
    rw [errsK] at hg
    have hw := hg _ (List.mem_cons_self ..)
    have hl : ∀ e ∈ errsK N (stepK k x) l, e = 0 := fun e he => hg e (List.mem_cons_of_mem _ (by rw [do_good hw]; exact he))
    rw [List.foldl_cons, do_good hw, good_cars l _ hl, step_cars, List.append_assoc]
    congr 1
    by_cases h : yarnK x = true
    · rw [if_pos h, List.filter_cons_of_pos h]; rfl
    · rw [if_neg h, List.filter_cons_of_neg h]; rfl
theorem laid_there {N : Nat} {l : List Sti} (h : Flawless N l) (c : Int) : (l.filter yarnK).countP (fun x => x.c == c) = (cars (cloth (told N (afterK N l))).loops).count c := by
  rw [(cloth_cars (told N (afterK N l))).count_eq]
  have e : cars (told N (afterK N l)).loops = (l.filter yarnK).map Sti.c := by
    have := good_cars l zeroK h
    rw [show cars zeroK.loops = [] from rfl, List.nil_append] at this
    exact this
  rw [e, List.count, List.countP_map]
  rfl
end Go.Proofs.Ytaacfjeddoekfaa
