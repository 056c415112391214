/- Texts of the seat, put together: Lib, Lib2, KnitPlain, KnitMem, KnitWalk1. -/
import Derived.Test.YtaacfjeddoekfaaRows
import Derived.WalkKit
import Derived.WalkSpells
import Derived.WalkLawsBesides
import Derived.Maps.AppendAt
import Derived.Lib.Hide
import Derived.Deep.Draws
import Derived.Deep.QuietTactic
import Derived.BigQuiet
import Derived.BigRegion
import Derived.RegionTactic
import Derived.Deep.LoopGhost
import Derived.Deep.DeepCutAuto
import Derived.Deep.RegionHeld3
/- Words for memory, and small laws on worlds: what the proofs of all seats use. -/
namespace Go.Proofs.Ytaacfjeddoekfaa
open Go.RowKit

/-! ### worlds -/

/-- all blocks of S are as they were -/
def Same (S : Nat → Prop) (w w' : World) : Prop := ∀ b, S b → w'.heap[b]? = w.heap[b]?

theorem Same.refl (S : Nat → Prop) (w : World) : Same S w w := fun _ _ => rfl
theorem Same.trans {S : Nat → Prop} {a b c : World} (h : Same S a b) (k : Same S b c) : Same S a c := fun i hi => (k i hi).trans (h i hi)
theorem Same.mono {S T : Nat → Prop} {a b : World} (h : Same S a b) (k : ∀ i, T i → S i) : Same T a b := fun i hi => h i (k i hi)
theorem Same.of_below {B : Nat} {w w' : World} (h : Below B w w') : Same (fun b => b < B) w w' := fun b hb => h.block b hb

/-- n cells from place o of block b on -/
structure Row (w : World) (S : Nat → Prop) (size : Nat) (A : Option Addr) (n : Nat) (xs : List Value) : Prop where
  len : xs.length = n * size
  at_ : 0 < n → ∃ b o, A = some ⟨b, o, none⟩ ∧ S b ∧ ∀ j u, xs[j]? = some u → w.cell? ⟨b, o + j, none⟩ = some u

section
variable {w w' : World} {S T : Nat → Prop} {size n : Nat} {A : Option Addr} {xs : List Value}

theorem Row.nil (w : World) (S : Nat → Prop) (size : Nat) (A : Option Addr) : Row w S size A 0 [] := ⟨by simp, fun h => absurd h (by omega)⟩

theorem Row.same (h : Row w S size A n xs) (k : Same S w w') : Row w' S size A n xs :=
  ⟨h.len, fun hn => by
    obtain ⟨b, o, e, hs, hc⟩ := h.at_ hn
    exact ⟨b, o, e, hs, fun j u hu => (World.cell?_of_block (a := ⟨b, o + j, none⟩) (k b hs)).trans (hc j u hu)⟩⟩

theorem Row.mono (h : Row w S size A n xs) (k : ∀ i, S i → T i) : Row w T size A n xs :=
  ⟨h.len, fun hn => by
    obtain ⟨b, o, e, hs, hc⟩ := h.at_ hn
    exact ⟨b, o, e, k b hs, hc⟩⟩

theorem Row.below {B : Nat} (h : Row w (fun b => b < B) size A n xs) (k : Below B w w') : Row w' (fun b => b < B) size A n xs := h.same (.of_below k)

/-- cell k of a row of one-cell elements -/
theorem Row.cell1 (h : Row w S 1 A n xs) {k : Nat} (hk : k < n) : ∃ b o u, A = some ⟨b, o, none⟩ ∧ S b ∧ xs[k]? = some u ∧ w.cell? ⟨b, o + k, none⟩ = some u := by
  obtain ⟨b, o, e, hs, hc⟩ := h.at_ (by omega)
  have hl : k < xs.length := by have := h.len; omega
  exact ⟨b, o, xs[k], e, hs, List.getElem?_eq_getElem hl, hc k _ (List.getElem?_eq_getElem hl)⟩

theorem Row.of_own {base : Nat} {e : TypeId} {c : Nat} (h : w.ownsRow base e size (.slice A n c) n xs) : Row w (fun b => base ≤ b ∧ b < w.heap.size) size A n xs := by
  refine ⟨h.1, fun hn => ?_⟩
  rcases h.2 with ⟨hv, h0⟩ | ⟨g, cap, cur, hv, hb, hg, rest⟩
  · omega
  · injection hv with hA
    refine ⟨g, 0, hA, ⟨hb, (Array.getElem?_eq_some_iff.1 hg).1⟩, fun j u hu => ?_⟩
    have := h.cells (g := g) (by rw [hA]; rfl) j u hu
    unfold Addr.add at this
    split at this
    · next h0 => subst h0; simpa using this
    · exact this
end

/-- an owned slice's value, with its address a letter -/
theorem own_form {w : World} {base : Nat} {e : TypeId} {size : Nat} {v : Value} {n : Nat} {xs : List Value} (h : w.ownsRow base e size v n xs) :
    ∃ A c, v = .slice A n c ∧ n ≤ c ∧ c ≤ maxLen := by
  rcases h.2 with ⟨rfl, rfl⟩ | ⟨g, cap, cur, rfl, _, _, hn, hm, _⟩
  · exact ⟨none, 0, rfl, Nat.le_refl _, by simp [maxLen]⟩
  · exact ⟨_, cap, rfl, hn, hm⟩

/-- a slice of ints reads as xs, in blocks of S -/
def Ints (w : World) (S : Nat → Prop) (v : Value) (xs : List Int) : Prop :=
  ∃ A c, v = .slice A xs.length c ∧ xs.length ≤ c ∧ c ≤ maxLen ∧ Row w S 1 A xs.length (xs.map (Value.int .i64))

theorem Ints.same {w w' : World} {S : Nat → Prop} {v : Value} {xs : List Int} (h : Ints w S v xs) (k : Same S w w') : Ints w' S v xs := by
  obtain ⟨A, c, e, h1, h2, h3⟩ := h
  exact ⟨A, c, e, h1, h2, h3.same k⟩
theorem Ints.mono {w : World} {S T : Nat → Prop} {v : Value} {xs : List Int} (h : Ints w S v xs) (k : ∀ i, S i → T i) : Ints w T v xs := by
  obtain ⟨A, c, e, h1, h2, h3⟩ := h
  exact ⟨A, c, e, h1, h2, h3.mono k⟩
theorem Ints.nil (w : World) (S : Nat → Prop) : Ints w S (.slice none 0 0) [] := ⟨none, 0, rfl, Nat.le_refl _, by simp [maxLen], .nil _ _ _ _⟩
theorem Ints.of_own {w : World} {base : Nat} {e : TypeId} {v : Value} {n : Nat} {xs : List Int} (h : w.ownsRow base e 1 v n (xs.map (Value.int .i64))) :
    Ints w (fun b => base ≤ b ∧ b < w.heap.size) v xs := by
  obtain ⟨A, c, rfl, h1, h2⟩ := own_form h
  have hl : xs.length = n := by have := h.1; simpa using this
  subst hl
  exact ⟨A, c, rfl, h1, h2, .of_own h⟩

/-- cell k of a slice of ints -/
theorem ints_cell {w : World} {S : Nat → Prop} {A : Option Addr} {xs : List Int} (h : Row w S 1 A xs.length (xs.map (Value.int .i64))) {k : Nat} (hk : k < xs.length) :
    ∃ b o, A = some ⟨b, o, none⟩ ∧ S b ∧ w.cell? ⟨b, o + k, none⟩ = some (.int .i64 xs[k]) := by
  obtain ⟨b, o, u, e, hs, hu, hc⟩ := h.cell1 hk
  simp [hk] at hu
  subst hu
  exact ⟨b, o, e, hs, hc⟩

theorem ret_congr {a b : Value} (h : a = b) : Ending.returned a = .returned b := by rw [h]
theorem ret_int {k : IntKind} {a b : Int} (h : a = b) : Ending.returned (.int k a) = .returned (.int k b) := by rw [h]
theorem ret_bool {a b : Bool} (h : a = b) : Ending.returned (.bool a) = .returned (.bool b) := by rw [h]

theorem ret_two {k l : IntKind} {a b c d : Int} (h1 : a = c) (h2 : b = d) : Ending.returned (.tuple #[.int k a, .int l b]) = .returned (.tuple #[.int k c, .int l d]) := by rw [h1, h2]

theorem below_of_drewN {B n : Nat} {w w' : World} (h : Below B (w.drewN n) w') : Below B w w' := ⟨h.os, h.tape, h.output, h.size, h.block⟩
theorem below_of_drew {B : Nat} {w w' : World} (h : Below B w.drew w') : Below B w w' := ⟨h.os, h.tape, h.output, h.size, h.block⟩

theorem below_step {B : Nat} {a b c : World} (h1 : Below B a b) (h2 : Below B a c) (hs : b.heap.size ≤ c.heap.size) : Below B b c :=
  ⟨h2.os.trans h1.os.symm, h2.tape.trans h1.tape.symm, h2.output.trans h1.output.symm, hs, fun k hk => (h2.block k hk).trans (h1.block k hk).symm⟩

/-- what the call owns stays owned where only new blocks have been written -/
theorem own_below {w w' : World} {base B : Nat} {e : TypeId} {size n : Nat} {v : Value} {xs : List Value} (h : w.ownsRow base e size v n xs) (hb : Below B w w') (hB : w.heap.size ≤ B) : w'.ownsRow base e size v n xs :=
  h.kept (row := none) ⟨hb.os, hb.tape, hb.output, hb.size, fun k hk _ => hb.block k (by omega)⟩ (by cases v.ownBlock <;> simp)

/-- an owned slice that is not empty: its block, its cells -/
theorem own_some {w : World} {base : Nat} {e : TypeId} {size : Nat} {A : Option Addr} {c : Nat} {n : Nat} {xs : List Value} (h : w.ownsRow base e size (.slice A n c) n xs) (hn : 0 < n) :
    ∃ g, A = some ⟨g, 0, none⟩ ∧ base ≤ g ∧ g < w.heap.size ∧ ∀ j u, xs[j]? = some u → w.cell? ⟨g, j, none⟩ = some u := by
  obtain ⟨b, o, rfl, ⟨h1, h2⟩, hc⟩ := (Row.of_own h).at_ hn
  rcases h.2 with ⟨hv, h0⟩ | ⟨g, cap, cur, hv, hb, hg, rest⟩
  · omega
  · injection hv with hA
    injection hA with hA
    injection hA with e1 e2
    subst e1 e2
    exact ⟨b, rfl, h1, h2, fun j u hu => by have := hc j u hu; rwa [Nat.zero_add] at this⟩

theorem below_al {B : Nat} {a w : World} (h : Below B a w) (hB : B ≤ a.heap.size) (o : Obj) : Below B a (w.alloc o) := h.alloc (Nat.le_trans hB h.size) o
theorem below_dN {B n : Nat} {a w : World} (h : Below B a w) : Below B a (w.drewN n) := ⟨h.os, h.tape, h.output, h.size, h.block⟩
theorem own_dN {w : World} {base k : Nat} {e : TypeId} {size n : Nat} {v : Value} {xs : List Value} (h : w.ownsRow base e size v n xs) : (w.drewN k).ownsRow base e size v n xs := h
theorem own_al {w : World} {base : Nat} {e : TypeId} {size n : Nat} {v : Value} {xs : List Value} (h : w.ownsRow base e size v n xs) (o : Obj) : (w.alloc o).ownsRow base e size v n xs := h.alloc o

/-- two slices of the call's own lie in two blocks -/
def Apart (u v : Value) : Prop := u.ownBlock = none ∨ v.ownBlock = none ∨ u.ownBlock ≠ v.ownBlock
theorem Apart.symm {u v : Value} (h : Apart u v) : Apart v u := by
  rcases h with h | h | h
  · exact .inr (.inl h)
  · exact .inl h
  · exact .inr (.inr (Ne.symm h))
theorem Apart.kept {u v : Value} {w w' : World} {base : Nat} {e : TypeId} {size n : Nat} {xs : List Value} (h : Apart u v) (hv : w.ownsRow base e size v n xs) (hg : w.grownBy w' u.ownBlock) : w'.ownsRow base e size v n xs := by
  refine hv.kept hg ?_
  rcases h with h | h | h
  · rw [h]; cases v.ownBlock <;> simp
  · exact .inl h
  · exact .inr (Ne.symm h)
theorem Apart.next {u u' v : Value} {w : World} {base : Nat} {e : TypeId} {size n m : Nat} {xs : List Value} (h : Apart u v) (hv : w.ownsRow base e size v n xs) (hm : w.heap.size ≤ m) (ho : u'.ownBlock = u.ownBlock ∨ u'.ownBlock = some m) : Apart u' v := by
  rcases ho with ho | ho
  · unfold Apart at *; rw [ho]; exact h
  · unfold Apart
    rw [ho]
    cases hb : v.ownBlock with
    | none => exact .inr (.inl rfl)
    | some k =>
      have := (hv.lt k hb).2
      exact .inr (.inr (by intro e; injection e with e; omega))
theorem Apart.nil (v : Value) : Apart (.slice none 0 0) v := .inl rfl

/-- block g is just the cells xs, of type t -/
def Arr (w : World) (g : Nat) (t : TypeId) (xs : List Value) : Prop := w.heap[g]? = some (.cells xs.toArray t (0, 0))
section
variable {w w' : World} {g : Nat} {t : TypeId} {xs : List Value}
theorem Arr.lt (h : Arr w g t xs) : g < w.heap.size := (Array.getElem?_eq_some_iff.1 h).1
theorem Arr.cell (h : Arr w g t xs) {k : Nat} {u : Value} (hu : xs[k]? = some u) : w.cell? ⟨g, k, none⟩ = some u := by
  rw [cell_of_row w g k xs.toArray t (0, 0) h]; simpa using hu
theorem Arr.free (h : Arr w g t xs) (k : Nat) : w.frozen? ⟨g, k, none⟩ = false := by
  unfold Arr at h
  simp [World.frozen?, h]
theorem Arr.set (h : Arr w g t xs) (k : Nat) (u : Value) : Arr (w.setCell ⟨g, k, none⟩ u) g t (xs.set k u) := by
  unfold Arr at *
  simp [World.setCell, Array.getElem?_modify, h]
theorem Arr.of_eq (h : Arr w g t xs) (e : w'.heap[g]? = w.heap[g]?) : Arr w' g t xs := e.trans h
theorem Arr.grown {row : Option Nat} (h : Arr w g t xs) (hg : w.grownBy w' row) (hne : row ≠ some g) : Arr w' g t xs := h.of_eq (hg.block g h.lt (Ne.symm hne))
theorem Arr.alloc (h : Arr w g t xs) (o : Obj) : Arr (w.alloc o) g t xs := h.of_eq (Below.heap_alloc w o g h.lt)
theorem Arr.dN (h : Arr w g t xs) (n : Nat) : Arr (w.drewN n) g t xs := h
theorem Arr.far (h : Arr w g t xs) {p : Addr} (hp : g ≠ p.block) (u : Value) : Arr (w.setCell p u) g t xs := h.of_eq (Below.heap_setCell w p u g hp)
theorem Arr.new (w : World) (cs : Array Value) (t : TypeId) : Arr (w.alloc (.cells cs t)) w.heap.size t cs.toList := by
  unfold Arr
  rw [heap_alloc_new]
end
theorem grownBy_set (w : World) (g k : Nat) (u : Value) : w.grownBy (w.setCell ⟨g, k, none⟩ u) (some g) :=
  ⟨rfl, rfl, rfl, by simp [World.setCell], fun i _ hne => Below.heap_setCell w _ u i (fun e => hne (by rw [e]))⟩
theorem grownBy_trans {a b c : World} {row : Option Nat} (h : a.grownBy b row) (k : b.grownBy c row) : a.grownBy c row :=
  ⟨k.os.trans h.os, k.tape.trans h.tape, k.output.trans h.output, Nat.le_trans h.size k.size, fun i hi hne => (k.block i (Nat.lt_of_lt_of_le hi h.size) hne).trans (h.block i hi hne)⟩
theorem grownBy_dN {a b : World} {row : Option Nat} {n : Nat} (h : a.grownBy b row) : a.grownBy (b.drewN n) row := ⟨h.os, h.tape, h.output, h.size, h.block⟩
theorem grownBy_al {a b : World} {row : Option Nat} (h : a.grownBy b row) (o : Obj) : a.grownBy (b.alloc o) row := grownBy_trans h (World.grownBy_alloc b o row)

theorem own_kept_lt {w w' : World} {base g : Nat} {e : TypeId} {size n : Nat} {v : Value} {xs : List Value} (h : w.ownsRow base e size v n xs) (hg : w.grownBy w' (some g)) (hlt : g < base) : w'.ownsRow base e size v n xs := by
  refine h.kept hg ?_
  cases hv : v.ownBlock with
  | none => exact .inl rfl
  | some k =>
    have := (h.lt k hv).1
    exact .inr (by intro e; injection e with e; omega)
theorem row_ne {w : World} {base g : Nat} {e : TypeId} {size n : Nat} {v : Value} {xs : List Value} (h : w.ownsRow base e size v n xs) (hlt : g < base) : v.ownBlock ≠ some g := by
  intro e
  have := (h.lt g e).1
  omega
theorem below_row {B base : Nat} {a w w' : World} {e : TypeId} {size n : Nat} {v : Value} {xs : List Value} (h : Below B a w) (ho : w.ownsRow base e size v n xs) (hg : w.grownBy w' v.ownBlock) (hB : B ≤ a.heap.size) (hb : B ≤ base) : Below B a w' :=
  h.grown hg (Nat.le_trans hB h.size) (fun k hk => Nat.le_trans hb (ho.lt k hk).1)
theorem below_one {B g : Nat} {a w w' : World} (h : Below B a w) (hg : w.grownBy w' (some g)) (hB : B ≤ a.heap.size) (hb : B ≤ g) : Below B a w' :=
  h.grown hg (Nat.le_trans hB h.size) (fun k hk => by injection hk with hk; omega)

/-! ### append -/

/-- type t is []e, an element of e has size cells and bytes bytes -/
structure SliceT (P : Program) (t e : TypeId) (z : Value) (size bytes : Nat) : Prop where
  ht : P.underlying t = some (.slice e)
  hi : (P.info? e).map (fun i => (i.zero, i.size, i.bytes)) = some (some z, size, bytes)
  hz : z.cells.size = size
  hs : 0 < size
  hb : 0 < bytes

theorem grownBy_alloc_first {w w' : World} {o : Obj} {row : Option Nat} (h : (w.alloc o).grownBy w' row) : w.grownBy w' row :=
  ⟨h.os, h.tape, h.output, Nat.le_trans (by simp) h.size, fun k hk hne => (h.block k (by simp; omega) hne).trans (Below.heap_alloc w o k hk)⟩

theorem below_owned {B : Nat} {a w w' : World} {e : TypeId} {size n : Nat} {v : Value} {xs : List Value} (h : Below B a w) (ho : w.ownsRow B e size v n xs) (hg : w.grownBy w' v.ownBlock) (hB : B ≤ a.heap.size) : Below B a w' :=
  h.grown hg (Nat.le_trans hB h.size) (fun k hk => (ho.lt k hk).1)

theorem own_base {w : World} {B B' : Nat} {e : TypeId} {size n : Nat} {v : Value} {xs : List Value} (h : w.ownsRow B e size v n xs) (hB : B' ≤ B) : w.ownsRow B' e size v n xs := by
  refine ⟨h.1, ?_⟩
  rcases h.2 with h2 | ⟨g, cap, cur, hv, hg, r⟩
  · exact .inl h2
  · exact .inr ⟨g, cap, cur, hv, Nat.le_trans hB hg, r⟩

/-- what follows the first k elements -/
theorem Row.cut {w : World} {S : Nat → Prop} {size n : Nat} {b o : Nat} {xs : List Value} (h : Row w S size (some ⟨b, o, none⟩) n xs) (k : Nat) (hk : k ≤ n) :
    Row w S size (some ⟨b, o + k * size, none⟩) (n - k) (xs.drop (k * size)) := by
  refine ⟨by rw [List.length_drop, h.len, Nat.sub_mul], fun hn => ?_⟩
  obtain ⟨b', o', e, hs, hc⟩ := h.at_ (by omega)
  injection e with e; injection e with e1 e2
  subst e1 e2
  refine ⟨b, o + k * size, rfl, hs, fun j u hu => ?_⟩
  rw [Nat.add_assoc]
  exact hc _ u (by rw [← hu, List.getElem?_drop])

section
variable {P : Program}

theorem run_mk {t e : TypeId} {z : Value} {size bytes : Nat} (T : SliceT P t e z size bytes) (n c : Nat) (hnc : n ≤ c) (hb : bytes * c ≤ 281474976710656) (w : World) :
    (Instr.makeSlice t (.int .i64 (n : Int)) (.int .i64 (c : Int))).run P w = .ok (.slice (some ⟨w.heap.size, 0, none⟩) n c) (w.alloc (.cells (madeCells z.cells (c * size)) e)) := by
  obtain ⟨i, hi0, hz, hsize, hby⟩ := info_parts T.hi
  have hc : c ≤ bytes * c := Nat.le_mul_of_pos_left _ T.hb
  have hb' : (i.bytes : Int) * (c : Int) ≤ 281474976710656 := by
    rw [hby, ← Int.natCast_mul]; omega
  have hr := run_make (P := P) w t e i z T.ht hi0 hz .i64 .i64 n c (by omega) (by omega) hb' (by omega)
  simp only [Int.toNat_natCast] at hr
  rw [hr, hsize]
theorem run_mk0 {t e : TypeId} {z : Value} {size bytes : Nat} (T : SliceT P t e z size bytes) (c : Nat) (hb : bytes * c ≤ 281474976710656) (w : World) :
    (Instr.makeSlice t (.int .i64 0) (.int .i64 (c : Int))).run P w = .ok (.slice (some ⟨w.heap.size, 0, none⟩) 0 c) (w.alloc (.cells (madeCells z.cells (c * size)) e)) :=
  run_mk T 0 c (Nat.zero_le _) hb w
theorem own_mk0 {t e : TypeId} {z : Value} {size bytes : Nat} (T : SliceT P t e z size bytes) (w : World) (base c : Nat) (hbase : base ≤ w.heap.size) (hb : bytes * c ≤ 281474976710656) :
    (w.alloc (.cells (madeCells z.cells (c * size)) e)).ownsRow base e size (.slice (some ⟨w.heap.size, 0, none⟩) 0 c) 0 [] :=
  World.ownsRow_made w _ c hbase (by have hc : c ≤ bytes * c := Nat.le_mul_of_pos_left _ T.hb; unfold maxLen; omega) (size_madeCells _ _)

/-- append of m elements that lie from place p of block g on -/
theorem wp_app {W w0 : World} {o : Oper} {a : Act} {K : Act → World → Prop} {Q : Exit → Act → World → Prop} {s x : Operand} {t e : TypeId} {z : Value} {size bytes : Nat}
    (T : SliceT P t e z size bytes) (us : List Value) {base : Nat} {v : Value} {n m g p c : Nat} {xs : List Value}
    (hown : W.ownsRow base e size v n xs) (hb : Below base w0 W) (hbase : base ≤ w0.heap.size)
    (ho : o.op = .call { callee := .builtin .append, args := #[s, x], argTypes := #[t, t] })
    (hs : a.eval s = v) (hx : a.eval x = .slice (some ⟨g, p, none⟩) m c)
    (hl : us.length = m * size) (hnews : ∀ j u, us[j]? = some u → W.cell? ⟨g, p + j, none⟩ = some u) (h1 : ∀ u ∈ us, u.oneCell' = true) (hbytes : (n + m) * bytes ≤ 140737488355328)
    (h : ∀ v' w', w'.ownsRow base e size v' (n + m) (xs ++ us) → Below base w0 w' → W.grownBy w' v.ownBlock → (v'.ownBlock = v.ownBlock ∨ v'.ownBlock = some W.heap.size) →
      K (a.put o.dst v') w') : o.wp P a W K Q := by
  obtain ⟨i, hi0, hz, hsize, hby⟩ := info_parts T.hi
  have hbs : base ≤ W.heap.size := Nat.le_trans hbase hb.size
  have hn1 : n + m ≤ maxLen := by
    have h3 : n + m ≤ (n + m) * bytes := Nat.le_mul_of_pos_right _ T.hb
    unfold maxLen
    omega
  obtain ⟨v', w', hr, h2, h3, _, h5⟩ := run_append_own_at (P := P) W base t o.type e i z size bytes T.ht hi0 hz hsize hby T.hz T.hs v n xs hown ⟨g, p, none⟩ m c us hl
    (fun j u hu => by rw [Addr.add_lit]; exact hnews j u hu) h1 hn1 hbytes hbs
  unfold Oper.wp execOp
  simp only [ho, resolve, invoke, builtin, Sem.run_bind, Sem.run_pure, Result.andThen_ok, List.map_toArray, List.map_cons, List.map_nil, hs, hx, hr]
  exact h v' w' h2 (below_owned hb hown h3 hbase) h3 h5

theorem step_app {W w0 : World} {ops : Array Oper} {o : Oper} {a : Act} {K : Act → World → Prop} {Q : Exit → Act → World → Prop} {E : Prop} {s x : Operand} {t e : TypeId} {z : Value} {size bytes : Nat}
    (T : SliceT P t e z size bytes) (us : List Value) {base : Nat} {v : Value} {n m g p c : Nat} {xs : List Value}
    (hown : W.ownsRow base e size v n xs) (hb : Below base w0 W) (hbase : base ≤ w0.heap.size)
    (hgd : o.guard = none)
    (ho : o.op = .call { callee := .builtin .append, args := #[s, x], argTypes := #[t, t] })
    (hs : a.eval s = v) (hx : a.eval x = .slice (some ⟨g, p, none⟩) m c)
    (hl : us.length = m * size) (hnews : ∀ j u, us[j]? = some u → W.cell? ⟨g, p + j, none⟩ = some u) (h1 : ∀ u ∈ us, u.oneCell' = true) (hbytes : (n + m) * bytes ≤ 140737488355328)
    (h : ∀ v' w', w'.ownsRow base e size v' (n + m) (xs ++ us) → Below base w0 w' → W.grownBy w' v.ownBlock → (v'.ownBlock = v.ownBlock ∨ v'.ownBlock = some W.heap.size) →
      K (a.put o.dst v') w') : if Region.wanted o (yielded ops a.tmps) = true then Oper.wp P o a W K Q else E := by
  rw [if_pos (by simp [Region.wanted, hgd])]
  exact wp_app T us hown hb hbase ho hs hx hl hnews h1 hbytes h

theorem news_alloc (w : World) (us : List Value) (et : TypeId) : ∀ j u, us[j]? = some u → (w.alloc (.cells us.toArray et)).cell? ⟨w.heap.size, 0 + j, none⟩ = some u := by
  intro j u hu
  rw [cell_of_row _ w.heap.size (0 + j) us.toArray et (0, 0) (heap_alloc_new w _), Nat.zero_add]
  simpa using hu

/-- 'out = append(out, x)' in a plain region: x lies, cell by cell, in the block that was just laid. -/
theorem app_el {w w0 : World} {ops : Array Oper} {rest : List Oper} {o : Oper} {a : Act} {Q : Exit → Act → World → Prop} {s x : Operand} {t e : TypeId} {z : Value} {size bytes : Nat}
    (T : SliceT P t e z size bytes) (us : List Value) {base : Nat} {v : Value} {n : Nat} {xs : List Value} {et : TypeId}
    (hown : w.ownsRow base e size v n xs) (hb : Below base w0 w) (hbase : base ≤ w0.heap.size)
    (hgd : o.guard = none)
    (ho : o.op = .call { callee := .builtin .append, args := #[s, x], argTypes := #[t, t] })
    (hs : a.eval s = v) (hx : a.eval x = .slice (some ⟨w.heap.size, 0, none⟩) 1 1)
    (hl : us.length = size) (h1 : ∀ u ∈ us, u.oneCell' = true) (hbytes : (n + 1) * bytes ≤ 140737488355328)
    (h : ∀ v' w', w'.ownsRow base e size v' (n + 1) (xs ++ us) → Below base w0 w' → w.grownBy w' v.ownBlock → (v'.ownBlock = v.ownBlock ∨ v'.ownBlock = some (w.heap.size + 1)) →
      wpList P ops Q rest (a.put o.dst v') w') : wpList P ops Q (o :: rest) a (w.alloc (.cells us.toArray et)) :=
  wpList_plain hgd fun K hK =>
    wp_app T us (hown.alloc _) (hb.alloc (Nat.le_trans hbase hb.size) _) hbase ho hs hx (by simpa using hl) (news_alloc w us et) h1 hbytes
      fun v' w' h2 h3 h4 h5 => hK _ _ (h v' w' h2 h3 (grownBy_alloc_first h4) (by simpa using h5))

/-- the same in a region that draws its order -/
theorem step_app_el {w w0 : World} {ops : Array Oper} {o : Oper} {a : Act} {K : Act → World → Prop} {Q : Exit → Act → World → Prop} {E : Prop} {s x : Operand} {t e : TypeId} {z : Value} {size bytes : Nat}
    (T : SliceT P t e z size bytes) (us : List Value) {base : Nat} {v : Value} {n : Nat} {xs : List Value} {et : TypeId}
    (hown : w.ownsRow base e size v n xs) (hb : Below base w0 w) (hbase : base ≤ w0.heap.size)
    (hgd : o.guard = none)
    (ho : o.op = .call { callee := .builtin .append, args := #[s, x], argTypes := #[t, t] })
    (hs : a.eval s = v) (hx : a.eval x = .slice (some ⟨w.heap.size, 0, none⟩) 1 1)
    (hl : us.length = size) (h1 : ∀ u ∈ us, u.oneCell' = true) (hbytes : (n + 1) * bytes ≤ 140737488355328)
    (h : ∀ v' w', w'.ownsRow base e size v' (n + 1) (xs ++ us) → Below base w0 w' → w.grownBy w' v.ownBlock → (v'.ownBlock = v.ownBlock ∨ v'.ownBlock = some (w.heap.size + 1)) →
      K (a.put o.dst v') w') : if Region.wanted o (yielded ops a.tmps) = true then Oper.wp P o a (w.alloc (.cells us.toArray et)).drew K Q else E :=
  step_app T us (hown.alloc _).drew (hb.alloc (Nat.le_trans hbase hb.size) _).drew hbase hgd ho hs hx (by simpa using hl) (news_alloc w us et) h1 hbytes
    fun v' w' h2 h3 h4 h5 => h v' w' h2 h3 (grownBy_alloc_first (w := w) (o := .cells us.toArray et) ⟨h4.os, h4.tape, h4.output, h4.size, h4.block⟩) (by simpa using h5)
end
end Go.Proofs.Ytaacfjeddoekfaa
/- Slices of structs: every element's cells. -/
namespace Go.Proofs.Ytaacfjeddoekfaa
open Go.RowKit
set_option linter.unusedVariables false

theorem flat_get {α β : Type} {f : α → List β} {n : Nat} (hf : ∀ a, (f a).length = n) (xs : List α) {k j : Nat} (hk : k < xs.length) (hj : j < n) : (xs.flatMap f)[k * n + j]? = (f xs[k])[j]? := by
  induction xs generalizing k with
  | nil => simp at hk
  | cons x xs ih =>
    rw [List.flatMap_cons]
    cases k with
    | zero => rw [Nat.zero_mul, Nat.zero_add, List.getElem?_append_left (by rw [hf]; exact hj)]; rfl
    | succ k =>
      have e : (k + 1) * n + j = n + (k * n + j) := by rw [Nat.add_mul, Nat.one_mul]; omega
      rw [e, List.getElem?_append_right (by rw [hf]; omega), hf, Nat.add_sub_cancel_left, ih (by simpa using hk)]
      rfl
theorem flat_len {α β : Type} {f : α → List β} {n : Nat} (hf : ∀ a, (f a).length = n) (xs : List α) : (xs.flatMap f).length = xs.length * n := by
  induction xs with
  | nil => simp
  | cons x xs ih => rw [List.flatMap_cons, List.length_append, ih, hf, List.length_cons, Nat.add_mul]; omega

/-- a slice of structs of n cells reads as xs, in blocks of S -/
def Els {α : Type} (f : α → List Value) (n : Nat) (w : World) (S : Nat → Prop) (v : Value) (xs : List α) : Prop :=
  ∃ A c, v = .slice A xs.length c ∧ xs.length ≤ c ∧ c ≤ maxLen ∧ Row w S n A xs.length (xs.flatMap f)
section
variable {α : Type} {f : α → List Value} {n : Nat} {w w' : World} {S T : Nat → Prop} {v : Value} {xs : List α}
theorem Els.same (h : Els f n w S v xs) (k : Same S w w') : Els f n w' S v xs := by
  obtain ⟨A, c, e, h1, h2, h3⟩ := h
  exact ⟨A, c, e, h1, h2, h3.same k⟩
theorem Els.mono (h : Els f n w S v xs) (k : ∀ i, S i → T i) : Els f n w T v xs := by
  obtain ⟨A, c, e, h1, h2, h3⟩ := h
  exact ⟨A, c, e, h1, h2, h3.mono k⟩
theorem els_at {A : Option Addr} (hf : ∀ a, (f a).length = n) (h : Row w S n A xs.length (xs.flatMap f)) (hn : 0 < n) {k : Nat} (hk : k < xs.length) :
    ∃ b o, A = some ⟨b, o, none⟩ ∧ S b ∧ ∀ j u, (f xs[k])[j]? = some u → w.cell? ⟨b, o + (k * n + j), none⟩ = some u := by
  obtain ⟨b, o, e, hs, hc⟩ := h.at_ (by omega)
  refine ⟨b, o, e, hs, fun j u hu => hc _ _ ?_⟩
  have hj : j < n := by
    have := (List.getElem?_eq_some_iff.1 hu).1
    rwa [hf] at this
  rw [flat_get hf xs hk hj, hu]
end
end Go.Proofs.Ytaacfjeddoekfaa
/- Chapter 11, plain: a knitting machine with two beds of needles. -/
namespace Go.Proofs.Ytaacfjeddoekfaa
set_option linter.unusedVariables false

/-- a stitch -/
structure Sti where
  d : Int
  b : Int
  n : Int
  c : Int
  t : Int
def Sti.cells (s : Sti) : List Value := [.int .i64 s.d, .int .i64 s.b, .int .i64 s.n, .int .i64 s.c, .int .i64 s.t]
theorem Sti.cells_len (s : Sti) : s.cells.length = 5 := rfl
/-- a loop -/
structure Lop where
  car : Int
  thr : List Int
/-- a machine -/
structure KS where
  loops : List Lop
  on : Int → Int → List Int
  loose : List Int
  rack : Int
  done : Nat
def zeroK : KS := ⟨[], fun _ _ => [], [], 0, 0⟩
/-- the needle that faces one -/
def fB (b : Int) : Int := if b = 0 then 1 else 0
def fN (r b n : Int) : Int := if b = 0 then n - r else n + r
def There (N : Nat) (b n : Int) : Prop := (b = 0 ∨ b = 1) ∧ 0 ≤ n ∧ n < (N : Int)
instance (N : Nat) (b n : Int) : Decidable (There N b n) := by unfold There; infer_instance
def KS.ln (k : KS) (x : Sti) : Nat := (k.on x.b x.n).length
def KS.lf (k : KS) (x : Sti) : Nat := (k.on (fB x.b) (fN k.rack x.b x.n)).length
def wrongK (N : Nat) (k : KS) (x : Sti) : Int :=
  if x.d < 1 ∨ 6 < x.d then 1 else
  if 4096 ≤ k.done then 4 else
  if x.d = 6 then (if x.t < -4 ∨ 4 < x.t then 3 else 0) else
  if ¬ There N x.b x.n then 3 else
  if x.d ≤ 3 ∧ (x.c < 0 ∨ 7 < x.c) then 3 else
  if x.d = 4 ∧ ¬ There N (fB x.b) (fN k.rack x.b x.n) then 3 else
  if x.d = 3 then 0 else
  if x.d = 2 then (if 8 ≤ k.ln x then 5 else 0) else
  if k.ln x = 0 then 6 else
  if x.d = 4 ∧ 8 < k.ln x + k.lf x then 5 else 0
/-- a needle holds l now -/
def put (on : Int → Int → List Int) (b n : Int) (l : List Int) : Int → Int → List Int := fun b' n' => if b' = b ∧ n' = n then l else on b' n'
theorem put_same (on : Int → Int → List Int) (b n : Int) (l : List Int) : put on b n l b n = l := by unfold put; rw [if_pos ⟨rfl, rfl⟩]
theorem put_ne (on : Int → Int → List Int) {b n b' n' : Int} (l : List Int) (h : ¬ (b' = b ∧ n' = n)) : put on b n l b' n' = on b' n' := by unfold put; rw [if_neg h]
def stepK (k : KS) (x : Sti) : KS :=
  if x.d = 6 then { k with rack := x.t, done := k.done + 1 } else
  if x.d = 1 then { k with loops := k.loops ++ [⟨x.c, k.on x.b x.n⟩], on := put k.on x.b x.n [(k.loops.length : Int)], done := k.done + 1 } else
  if x.d = 2 then { k with loops := k.loops ++ [⟨x.c, []⟩], on := put k.on x.b x.n (k.on x.b x.n ++ [(k.loops.length : Int)]), done := k.done + 1 } else
  if x.d = 4 then { k with on := put (put k.on (fB x.b) (fN k.rack x.b x.n) (k.on (fB x.b) (fN k.rack x.b x.n) ++ k.on x.b x.n)) x.b x.n [], done := k.done + 1 } else
  if x.d = 5 then { k with loose := k.loose ++ k.on x.b x.n, on := put k.on x.b x.n [], done := k.done + 1 } else
  { k with done := k.done + 1 }
def doK (N : Nat) (k : KS) (x : Sti) : KS := if wrongK N k x = 0 then stepK k x else k
def afterK (N : Nat) (l : List Sti) : KS := l.foldl (doK N) zeroK
/-- what is told of each stitch -/
def errsK (N : Nat) : KS → List Sti → List Int
  | _, [] => []
  | k, x :: l => wrongK N k x :: errsK N (doK N k x) l
theorem errsK_len (N : Nat) : ∀ (l : List Sti) (k : KS), (errsK N k l).length = l.length
  | [], _ => rfl
  | x :: l, k => by rw [errsK, List.length_cons, errsK_len N l, List.length_cons]
theorem errsK_append (N : Nat) : ∀ (l m : List Sti) (k : KS), errsK N k (l ++ m) = errsK N k l ++ errsK N (l.foldl (doK N) k) m
  | [], m, k => rfl
  | x :: l, m, k => by rw [List.cons_append, errsK, errsK, errsK_append N l, List.cons_append, List.foldl_cons]
theorem afterK_snoc (N : Nat) (l : List Sti) (x : Sti) : afterK N (l ++ [x]) = doK N (afterK N l) x := by unfold afterK; rw [List.foldl_append]; rfl
theorem afterK_take {N : Nat} {l : List Sti} {i : Nat} (h : i < l.length) : afterK N (l.take (i + 1)) = doK N (afterK N (l.take i)) l[i] := by rw [List.take_succ_eq_append_getElem h, afterK_snoc]
theorem errsK_take {N : Nat} {l : List Sti} {i : Nat} (h : i < l.length) : errsK N zeroK (l.take (i + 1)) = errsK N zeroK (l.take i) ++ [wrongK N (afterK N (l.take i)) l[i]] := by
  rw [List.take_succ_eq_append_getElem h, errsK_append]; rfl

theorem fB_cases (b : Int) : fB b = 0 ∨ fB b = 1 := by unfold fB; split <;> omega
theorem fB_ne {b : Int} (h : b = 0 ∨ b = 1) : fB b ≠ b := by unfold fB; split <;> omega

/-- what always stands -/
structure Kinv (N : Nat) (k : KS) : Prop where
  r : -4 ≤ k.rack ∧ k.rack ≤ 4
  d : k.done ≤ 4096
  on : ∀ b n, (k.on b n).length ≤ 8
  off : ∀ b n, ¬ There N b n → k.on b n = []
  loops : k.loops.length ≤ k.done
  loose : k.loose.length ≤ 8 * k.done
  thr : ∀ l ∈ k.loops, l.thr.length ≤ 8
  car : ∀ l ∈ k.loops, 0 ≤ l.car ∧ l.car ≤ 7
theorem kinv_zero (N : Nat) : Kinv N zeroK := ⟨by decide, by decide, fun _ _ => by simp [zeroK], fun _ _ _ => rfl, Nat.le_refl _, by decide, fun l h => by simp [zeroK] at h, fun l h => by simp [zeroK] at h⟩
theorem wrong_bounds {N : Nat} {k : KS} {x : Sti} (h : wrongK N k x = 0) : 1 ≤ x.d ∧ x.d ≤ 6 ∧ k.done < 4096 ∧ (x.d = 6 → -4 ≤ x.t ∧ x.t ≤ 4) ∧ (x.d ≠ 6 → There N x.b x.n) ∧ (x.d ≤ 3 → 0 ≤ x.c ∧ x.c ≤ 7) ∧
    (x.d = 4 → There N (fB x.b) (fN k.rack x.b x.n) ∧ k.ln x + k.lf x ≤ 8) ∧ (x.d = 2 → k.ln x < 8) ∧ (x.d = 1 ∨ x.d = 4 ∨ x.d = 5 → 0 < k.ln x) := by
  unfold wrongK at h
  split at h
  · omega
  split at h
  · omega
  split at h
  · split at h
    · omega
    · refine ⟨by omega, by omega, by omega, fun _ => by omega, fun e => by omega, fun e => by omega, fun e => by omega, fun e => by omega, fun e => by omega⟩
  next h6 =>
  split at h
  · omega
  next ht =>
  have ht : There N x.b x.n := Decidable.of_not_not ht
  split at h
  · omega
  split at h
  · omega
  next h4 =>
  have h4 : x.d = 4 → There N (fB x.b) (fN k.rack x.b x.n) := fun e => Decidable.of_not_not fun c => h4 ⟨e, c⟩
  split at h
  · refine ⟨by omega, by omega, by omega, fun _ => by omega, fun e => ht, fun e => by omega, fun e => by omega, fun e => by omega, fun e => by omega⟩
  split at h
  · split at h
    · omega
    · refine ⟨by omega, by omega, by omega, fun _ => by omega, fun e => ht, fun e => by omega, fun e => by omega, fun e => by omega, fun e => by omega⟩
  split at h
  · omega
  split at h
  · omega
  · refine ⟨by omega, by omega, by omega, fun _ => by omega, fun e => ht, fun e => by omega, fun e => ⟨h4 e, by omega⟩, fun e => by omega, fun e => by omega⟩
theorem put_len {on : Int → Int → List Int} {b n : Int} {l : List Int} {m : Nat} (h : ∀ b n, (on b n).length ≤ m) (hl : l.length ≤ m) (b' n' : Int) : (put on b n l b' n').length ≤ m := by
  unfold put; split
  · exact hl
  · exact h _ _
theorem put_off {N : Nat} {on : Int → Int → List Int} {b n : Int} {l : List Int} (h : ∀ b n, ¬ There N b n → on b n = []) (hl : There N b n) (b' n' : Int) (hn : ¬ There N b' n') : put on b n l b' n' = [] := by
  unfold put; split
  · next e => exact absurd (by rw [e.1, e.2]; exact hl) hn
  · exact h _ _ hn
theorem kinv_step {N : Nat} {k : KS} {x : Sti} (hi : Kinv N k) (h : wrongK N k x = 0) : Kinv N (stepK k x) := by
  obtain ⟨w1, w2, w3, w4, w5, w6, w7, w8, w9⟩ := wrong_bounds h
  obtain ⟨i1, i2, i3, i4, i5, i6, i7, i8⟩ := hi
  have hon := i3 x.b x.n
  unfold stepK
  split
  · exact ⟨w4 (by assumption), by dsimp only; omega, i3, i4, by dsimp only; omega, by dsimp only; omega, i7, i8⟩
  next h6 =>
  have ht := w5 h6
  split
  · refine ⟨i1, by dsimp only; omega, put_len i3 (by simp), put_off i4 ht, by simp; omega, by dsimp only; omega, fun l hl => ?_, fun l hl => ?_⟩
    all_goals
      dsimp only at hl
      rcases List.mem_append.1 hl with h1 | h1
      · first | exact i7 l h1 | exact i8 l h1
      · rw [List.mem_singleton] at h1
        subst h1
        first | exact i3 _ _ | exact w6 (by omega)
  split
  · have := w8 (by assumption)
    unfold KS.ln at this
    refine ⟨i1, by dsimp only; omega, put_len i3 (by simp; omega), put_off i4 ht, by simp; omega, by dsimp only; omega, fun l hl => ?_, fun l hl => ?_⟩
    all_goals
      dsimp only at hl
      rcases List.mem_append.1 hl with h1 | h1
      · first | exact i7 l h1 | exact i8 l h1
      · rw [List.mem_singleton] at h1
        subst h1
        first | exact Nat.zero_le _ | exact w6 (by omega)
  split
  · have := w7 (by assumption)
    unfold KS.ln KS.lf at this
    exact ⟨i1, by dsimp only; omega, put_len (put_len i3 (by simp; omega)) (by simp), put_off (put_off i4 this.1) ht, by dsimp only; omega, by dsimp only; omega, i7, i8⟩
  split
  · exact ⟨i1, by dsimp only; omega, put_len i3 (by simp), put_off i4 ht, by dsimp only; omega, by simp; omega, i7, i8⟩
  · exact ⟨i1, by dsimp only; omega, i3, i4, by dsimp only; omega, by dsimp only; omega, i7, i8⟩
theorem kinv_do {N : Nat} {k : KS} {x : Sti} (hi : Kinv N k) : Kinv N (doK N k x) := by
  unfold doK; split
  · exact kinv_step hi (by assumption)
  · exact hi
theorem kinv_fold {N : Nat} : ∀ (l : List Sti) (k : KS), Kinv N k → Kinv N (l.foldl (doK N) k)
  | [], k, h => h
  | x :: l, k, h => kinv_fold l _ (kinv_do h)
theorem kinv_after (N : Nat) (l : List Sti) : Kinv N (afterK N l) := kinv_fold l _ (kinv_zero N)

/-- what is told of a machine -/
structure Kn where
  loops : List Lop
  front : List (List Int)
  back : List (List Int)
  loose : List Int
  rack : Int
def told (N : Nat) (k : KS) : Kn := ⟨k.loops, (List.range N).map fun n : Nat => k.on 0 (n : Int), (List.range N).map fun n : Nat => k.on 1 (n : Int), k.loose, k.rack⟩
def noKn : Kn := ⟨[], [], [], [], 0⟩

/-- the first stitch that is wrong -/
def firstBad : List Int → Option (Int × Nat)
  | [] => none
  | e :: l => if e ≠ 0 then some (e, 0) else (firstBad l).map fun p => (p.1, p.2 + 1)
theorem firstBad_none : ∀ {l : List Int}, (∀ e ∈ l, e = 0) → firstBad l = none
  | [], _ => rfl
  | e :: l, h => by rw [firstBad, if_neg (fun c => c (h e (by simp))), firstBad_none fun x hx => h x (by simp [hx])]; rfl
theorem firstBad_some : ∀ {l : List Int} {i : Nat} (hi : i < l.length), (∀ j (hj : j < i), l[j] = 0) → l[i] ≠ 0 → firstBad l = some (l[i], i)
  | [], i, hi, _, _ => by simp at hi
  | e :: l, 0, hi, h, hn => by rw [firstBad, if_pos (by exact hn)]; rfl
  | e :: l, i + 1, hi, h, hn => by
    rw [firstBad, if_neg (fun c => c (h 0 (by omega))), firstBad_some (i := i) (by simpa using hi) (fun j hj => h (j + 1) (by omega)) hn]; rfl
theorem errsK_get {N : Nat} {l : List Sti} {i : Nat} (h : i < l.length) : (errsK N zeroK l)[i]? = some (wrongK N (afterK N (l.take i)) l[i]) := by
  have e : l = l.take i ++ l.drop i := (List.take_append_drop i l).symm
  have e2 : errsK N zeroK l = errsK N zeroK (l.take i) ++ errsK N (afterK N (l.take i)) (l.drop i) := by
    rw [afterK, ← errsK_append, ← e]
  rw [e2, List.getElem?_append_right (by rw [errsK_len, List.length_take]; omega), errsK_len, List.length_take, Nat.min_eq_left (by omega), Nat.sub_self, List.drop_eq_getElem_cons h, errsK]
  rfl
/-- no stitch of the first i is wrong -/
def Fine (N : Nat) (l : List Sti) (i : Nat) : Prop := ∀ j (hj : j < l.length), j < i → wrongK N (afterK N (l.take j)) l[j] = 0
theorem Fine.bad {N : Nat} {l : List Sti} {i : Nat} (h : Fine N l i) (hi : i < l.length) (hn : wrongK N (afterK N (l.take i)) l[i] ≠ 0) : firstBad (errsK N zeroK l) = some (wrongK N (afterK N (l.take i)) l[i], i) := by
  have hl : i < (errsK N zeroK l).length := by rw [errsK_len]; exact hi
  have e : ∀ j (hj : j < l.length) (hj2 : j < (errsK N zeroK l).length), (errsK N zeroK l)[j] = wrongK N (afterK N (l.take j)) l[j] := fun j hj hj2 => by
    have := errsK_get (N := N) hj
    rw [List.getElem?_eq_getElem hj2] at this
    exact Option.some.inj this
  rw [firstBad_some hl (fun j hj => by rw [e j (by omega)]; exact h j (by omega) hj) (by rw [e i hi]; exact hn), e i hi]
theorem Fine.none {N : Nat} {l : List Sti} (h : Fine N l l.length) : firstBad (errsK N zeroK l) = none := by
  refine firstBad_none fun x hx => ?_
  obtain ⟨j, hj, rfl⟩ := List.mem_iff_getElem.1 hx
  have hj' : j < l.length := by rw [errsK_len] at hj; exact hj
  have := errsK_get (N := N) hj'
  rw [List.getElem?_eq_getElem hj] at this
  rw [Option.some.inj this]
  exact h j hj' hj'
theorem Fine.next {N : Nat} {l : List Sti} {i : Nat} (h : Fine N l i) (hi : i < l.length) (hn : wrongK N (afterK N (l.take i)) l[i] = 0) : Fine N l (i + 1) := by
  intro j hj hji
  rcases Nat.lt_or_eq_of_le (Nat.le_of_lt_succ hji) with h1 | rfl
  · exact h j hj h1
  · exact hn
/-- what Run answers -/
def runF (N : Nat) (l : List Sti) : Int × Int := match firstBad (errsK N zeroK l) with | none => (0, 0) | some (e, i) => (e, (i : Int))
def runK (N : Nat) (l : List Sti) : Kn := match firstBad (errsK N zeroK l) with | none => told N (afterK N l) | some _ => noKn
end Go.Proofs.Ytaacfjeddoekfaa
/- Chapter 11: a machine in memory. -/
namespace Go.Proofs.Ytaacfjeddoekfaa
open Go.RowKit
set_option linter.unusedVariables false

abbrev nils : Value := .slice none 0 0
/-- whose a block is -/
abbrev Role := Nat × Int × Int
def Sep (v : Value) (r : Role) (own : Nat → Role) : Prop := ∀ g, v.ownBlock = some g → own g = r
def ow (own : Nat → Role) (z : Nat) (r : Role) : Nat → Role := fun x => if x = z then r else own x
theorem ow_same (own : Nat → Role) (z : Nat) (r : Role) : ow own z r z = r := if_pos rfl
theorem ow_ne (own : Nat → Role) {z x : Nat} (r : Role) (h : x ≠ z) : ow own z r x = own x := if_neg h
/-- only blocks of one role have turned -/
structure Kept (own : Nat → Role) (r : Role) (w w' : World) : Prop where
  size : w.heap.size ≤ w'.heap.size
  block : ∀ g, g < w.heap.size → own g ≠ r → w'.heap[g]? = w.heap[g]?
section
variable {own own' : Nat → Role} {r r' : Role} {w w' w'' : World} {B : Nat} {e : TypeId} {size n g : Nat} {v v' : Value} {xs : List Value} {t : TypeId}
theorem Kept.refl (own : Nat → Role) (r : Role) (w : World) : Kept own r w w := ⟨Nat.le_refl _, fun _ _ _ => rfl⟩
theorem Kept.of_below (own : Nat → Role) (r : Role) (h : Below w.heap.size w w') : Kept own r w w' := ⟨h.size, fun g hg _ => h.block g hg⟩
theorem Kept.trans (h : Kept own r w w') (k : Kept own r w' w'') : Kept own r w w'' := ⟨Nat.le_trans h.size k.size, fun g hg hn => (k.block g (Nat.lt_of_lt_of_le hg h.size) hn).trans (h.block g hg hn)⟩
theorem Kept.of_grown {row : Option Nat} (h : w.grownBy w' row) (hr : ∀ g, row = some g → own g = r) : Kept own r w w' :=
  ⟨h.size, fun g hg hn => h.block g hg fun e => hn (hr g e.symm)⟩
theorem Kept.set (k : Nat) (u : Value) (hg : own g = r) : Kept own r w (w.setCell ⟨g, k, none⟩ u) := .of_grown (grownBy_set w g k u) fun g' e => by cases e; exact hg
theorem Kept.row (h : Kept own r w w') (hv : w.ownsRow B e size v n xs) (hs : Sep v r' own) (hne : r' ≠ r) : w'.ownsRow B e size v n xs := by
  refine ⟨hv.1, ?_⟩
  rcases hv.2 with hn | ⟨g, cap, cur, rfl, hb, hgg, rest⟩
  · exact .inl hn
  · refine .inr ⟨g, cap, cur, rfl, hb, ?_, rest⟩
    rw [h.block g (Array.getElem?_eq_some_iff.1 hgg).1 (by rw [hs g rfl]; exact hne)]
    exact hgg
theorem Kept.arr (h : Kept own r w w') (ha : Arr w g t xs) (hne : own g ≠ r) : Arr w' g t xs := ha.of_eq (h.block g ha.lt hne)
theorem Sep.nil (r : Role) (own : Nat → Role) : Sep (.slice none 0 0) r own := fun g h => by cases h
theorem Sep.turn (h : Sep v r own) (hv : w.ownsRow B e size v n xs) (ho : ∀ g, g < w.heap.size → own g ≠ r' → own' g = own g) (hne : r ≠ r') : Sep v r own' := fun g hg => by
  rw [ho g (hv.lt g hg).2 (by rw [h g hg]; exact hne)]; exact h g hg
theorem Sep.app {z : Nat} (h : Sep v r own) (hv : w.ownsRow B e size v n xs) (hz : w.heap.size ≤ z) (he : v'.ownBlock = v.ownBlock ∨ v'.ownBlock = some z) : Sep v' r (ow own z r) := fun g hg => by
  rcases he with he | he
  · rw [he] at hg
    rw [ow_ne own r (by have := (hv.lt g hg).2; omega)]; exact h g hg
  · rw [he] at hg; cases hg; exact ow_same own z r
theorem ow_old {z : Nat} (hz : w.heap.size ≤ z) : ∀ g, g < w.heap.size → own g ≠ r' → ow own z r' g = own g := fun g hg _ => ow_ne own r' (by omega)
theorem ow_old' {z : Nat} (r'' : Role) (hz : w.heap.size ≤ z) : ∀ g, g < w.heap.size → own g ≠ r' → ow own z r'' g = own g := fun g hg _ => ow_ne own r'' (by omega)
end

/-- the parts of a machine in memory -/
structure MD where
  own : Nat → Role
  vl : Value
  vo : Value
  gb : Int → Nat
  hv : Int → Int → Value
  tv : Nat → Value
abbrev rM : Role := (0, 0, 0)
abbrev rB (b : Int) : Role := (1, b, 0)
abbrev rL : Role := (2, 0, 0)
abbrev rO : Role := (3, 0, 0)
abbrev rN (b n : Int) : Role := (4, b, n)
abbrev rT (i : Nat) : Role := (5, (i : Int), 0)
abbrev rX : Role := (6, 0, 0)
/-- what is not the machine's is as it was -/
def Fr (m : MD) (w : World) (m' : MD) (w' : World) : Prop := w.heap.size ≤ w'.heap.size ∧ ∀ b, b < w.heap.size → m.own b = rX → m'.own b = rX ∧ w'.heap[b]? = w.heap[b]?
theorem Fr.trans {m m' m'' : MD} {w w' w'' : World} (h : Fr m w m' w') (k : Fr m' w' m'' w'') : Fr m w m'' w'' :=
  ⟨Nat.le_trans h.1 k.1, fun b hb hx => by
    obtain ⟨h1, h2⟩ := h.2 b hb hx
    obtain ⟨k1, k2⟩ := k.2 b (Nat.lt_of_lt_of_le hb h.1) h1
    exact ⟨k1, k2.trans h2⟩⟩
theorem Fr.keep (m : MD) {w w' : World} (hb : Below w.heap.size w w') : Fr m w m w' := ⟨hb.size, fun b h hx => ⟨hx, hb.block b h⟩⟩
theorem Fr.step {m m' : MD} {w w1 : World} {r : Role} (K : Kept m.own r w w1) (hr : r ≠ rX) {q j : Nat} {u : Value} (hq : m.own q ≠ rX) (ho : ∀ b, b < w.heap.size → m.own b = rX → m'.own b = rX) : Fr m w m' (w1.setCell ⟨q, j, none⟩ u) :=
  ⟨by have := K.size; simpa [World.setCell] using this, fun b hb hx => ⟨ho b hb hx, (Below.heap_setCell _ _ _ _ (fun e => hq (by rw [← show b = q from e]; exact hx))).trans (K.block b hb (by rw [hx]; exact hr.symm))⟩⟩
def noLop : Lop := ⟨0, []⟩
def ints (xs : List Int) : List Value := xs.map (Value.int .i64)
def lrow (ls : List Lop) (tv : Nat → Value) : List Value := (List.range ls.length).flatMap fun i => [.int .i64 (ls.getD i noLop).car, tv i]
theorem lrow_len (ls : List Lop) (tv : Nat → Value) : (lrow ls tv).length = ls.length * 2 := by
  unfold lrow
  rw [flat_len (n := 2) (fun _ => rfl), List.length_range]
theorem lrow_snoc (ls : List Lop) (tv : Nat → Value) (l : Lop) (u : Value) : lrow (ls ++ [l]) (fun i => if i = ls.length then u else tv i) = lrow ls tv ++ [.int .i64 l.car, u] := by
  unfold lrow
  rw [List.length_append, List.length_singleton, List.range_succ, List.flatMap_append]
  congr 1
  · show List.flatten (List.map _ _) = List.flatten (List.map _ _)
    congr 1
    refine List.map_congr_left fun i hi => ?_
    have hi' : i < ls.length := by simpa using hi
    dsimp only
    rw [if_neg (by omega)]
    simp [hi', List.getElem?_append_left]
  · simp
def mcells (m : MD) (N : Nat) (k : KS) : List Value := [m.vl, .slice (some ⟨m.gb 0, 0, none⟩) N N, .slice (some ⟨m.gb 1, 0, none⟩) N N, m.vo, .int .i64 k.rack, .int .i64 (k.done : Int)]
def brow (m : MD) (N : Nat) (b : Int) : List Value := (List.range N).map fun j : Nat => m.hv b (j : Int)
/-- what stands of a machine, but for what loops were pulled through -/
structure MC (w0 w : World) (B p N : Nat) (m : MD) (k : KS) : Prop where
  below : Below B w0 w
  hB : B ≤ w0.heap.size
  arr : Arr w p 78 (mcells m N k)
  pB : B ≤ p
  bed : ∀ b, b = 0 ∨ b = 1 → Arr w (m.gb b) 25 (brow m N b) ∧ B ≤ m.gb b
  ol : w.ownsRow B 41 2 m.vl k.loops.length (lrow k.loops m.tv)
  oo : w.ownsRow B 3 1 m.vo k.loose.length (ints k.loose)
  on : ∀ b n, w.ownsRow B 3 1 (m.hv b n) (k.on b n).length (ints (k.on b n))
  rp : m.own p = rM
  rb : ∀ b, b = 0 ∨ b = 1 → m.own (m.gb b) = rB b
  rl : Sep m.vl rL m.own
  ro : Sep m.vo rO m.own
  rn : ∀ b n, Sep (m.hv b n) (rN b n) m.own
/-- and what they were pulled through -/
def TH (w : World) (B : Nat) (m : MD) (ls : List Lop) : Prop := ∀ i, i < ls.length → w.ownsRow B 3 1 (m.tv i) (ls.getD i noLop).thr.length (ints (ls.getD i noLop).thr) ∧ Sep (m.tv i) (rT i) m.own

section
variable {w0 w w1 w2 : World} {B p N : Nat} {m : MD} {k : KS} {ls : List Lop}
theorem MC.le (h : MC w0 w B p N m k) : B ≤ w.heap.size := Nat.le_trans h.hB h.below.size
theorem MC.keep (h : MC w0 w B p N m k) (hb : Below w.heap.size w w1) : MC w0 w1 B p N m k := by
  have K : ∀ r, Kept m.own r w w1 := fun r => .of_below _ _ hb
  have K0 := K (6, 0, 0)
  exact ⟨h.below.trans (hb.mono h.le), h.hB, K0.arr h.arr (by rw [h.rp]; decide), h.pB, fun b hb' => ⟨K0.arr (h.bed b hb').1 (by rw [h.rb b hb']; simp), (h.bed b hb').2⟩,
    K0.row h.ol h.rl (by decide), K0.row h.oo h.ro (by decide), fun b n => K0.row (h.on b n) (h.rn b n) (by simp), h.rp, h.rb, h.rl, h.ro, h.rn⟩
theorem TH.keep (h : TH w B m ls) (hb : Below w.heap.size w w1) : TH w1 B m ls := fun i hi => ⟨(Kept.of_below m.own (6, 0, 0) hb).row (h i hi).1 (h i hi).2 (by simp), (h i hi).2⟩
theorem TH.turn {own' : Nat → Role} {r : Role} (h : TH w B m ls) (hk : Kept m.own r w w1) (ho : ∀ g, g < w.heap.size → m.own g ≠ r → own' g = m.own g) (hr : ∀ i, rT i ≠ r) {m' : MD} (e1 : ∀ i, i < ls.length → m'.tv i = m.tv i) (e2 : m'.own = own') : TH w1 B m' ls := fun i hi => by
  rw [e1 i hi, e2]
  exact ⟨hk.row (h i hi).1 (h i hi).2 (hr i), (h i hi).2.turn (h i hi).1 ho (hr i)⟩
/-- a cell of the machine -/
theorem MC.cell (h : MC w0 w B p N m k) {j : Nat} {u : Value} (hu : (mcells m N k)[j]? = some u) : w.cell? ⟨p, j, none⟩ = some u := h.arr.cell hu
theorem MC.free (h : MC w0 w B p N m k) (j : Nat) : w.frozen? ⟨p, j, none⟩ = false := h.arr.free j
theorem MC.bcell (h : MC w0 w B p N m k) {b : Int} {j : Nat} (ht : There N b (j : Int)) : w.cell? ⟨m.gb b, j, none⟩ = some (m.hv b (j : Int)) ∧ w.frozen? ⟨m.gb b, j, none⟩ = false := by
  have ha := (h.bed b ht.1).1
  have hj : j < N := by have := ht.2.2; omega
  exact ⟨ha.cell (by unfold brow; simp [hj]), ha.free j⟩
theorem MC.rack (h : MC w0 w B p N m k) (t : Int) : MC w0 (w.setCell ⟨p, 4, none⟩ (.int .i64 t)) B p N m { k with rack := t } := by
  have K : Kept m.own rM w (w.setCell ⟨p, 4, none⟩ (.int .i64 t)) := .set 4 _ h.rp
  exact ⟨h.below.setCell h.pB _, h.hB, h.arr.set 4 _, h.pB, fun b hb' => ⟨K.arr (h.bed b hb').1 (by rw [h.rb b hb']; simp), (h.bed b hb').2⟩,
    K.row h.ol h.rl (by decide), K.row h.oo h.ro (by decide), fun b n => K.row (h.on b n) (h.rn b n) (by simp), h.rp, h.rb, h.rl, h.ro, h.rn⟩
theorem MC.done (h : MC w0 w B p N m k) (d : Nat) : MC w0 (w.setCell ⟨p, 5, none⟩ (.int .i64 (d : Int))) B p N m { k with done := d } := by
  have K : Kept m.own rM w (w.setCell ⟨p, 5, none⟩ (.int .i64 (d : Int))) := .set 5 _ h.rp
  exact ⟨h.below.setCell h.pB _, h.hB, h.arr.set 5 _, h.pB, fun b hb' => ⟨K.arr (h.bed b hb').1 (by rw [h.rb b hb']; simp), (h.bed b hb').2⟩,
    K.row h.ol h.rl (by decide), K.row h.oo h.ro (by decide), fun b n => K.row (h.on b n) (h.rn b n) (by simp), h.rp, h.rb, h.rl, h.ro, h.rn⟩
theorem TH.mach (h : TH w B m ls) (hp : m.own p = rM) (j : Nat) (u : Value) : TH (w.setCell ⟨p, j, none⟩ u) B m ls := h.turn (r := rM) (.set j u hp) (fun _ _ _ => rfl) (fun i => by simp) (fun _ _ => rfl) rfl
/-- a loop more -/
theorem MC.loop (h : MC w0 w B p N m k) {v' u : Value} {z : Nat} {c : Int} {t : List Int} (hg : w.grownBy w1 m.vl.ownBlock) (hz : w.heap.size ≤ z) (hb : Below B w0 w1)
    (hv : w1.ownsRow B 41 2 v' (k.loops.length + 1) (lrow k.loops m.tv ++ [.int .i64 c, u])) (he : v'.ownBlock = m.vl.ownBlock ∨ v'.ownBlock = some z) :
    MC w0 (w1.setCell ⟨p, 0, none⟩ v') B p N { m with own := ow m.own z rL, vl := v', tv := fun i => if i = k.loops.length then u else m.tv i } { k with loops := k.loops ++ [⟨c, t⟩] } := by
  have hp : p < w.heap.size := h.arr.lt
  have K : Kept m.own rL w w1 := .of_grown hg fun g e => h.rl g e
  have O := ow_old (own := m.own) (r' := rL) hz
  have ep : ow m.own z rL p = rM := by rw [ow_ne _ _ (by omega)]; exact h.rp
  have eb : ∀ b, b = 0 ∨ b = 1 → ow m.own z rL (m.gb b) = rB b := fun b hb' => by rw [ow_ne _ _ (by have := (h.bed b hb').1.lt; omega)]; exact h.rb b hb'
  have S : Sep v' rL (ow m.own z rL) := h.rl.app h.ol hz he
  have K2 : Kept (ow m.own z rL) rM w1 (w1.setCell ⟨p, 0, none⟩ v') := .set 0 _ ep
  refine ⟨hb.setCell h.pB _, h.hB, (K.arr h.arr (by rw [h.rp]; decide)).set 0 _, h.pB, fun b hb' => ⟨K2.arr (K.arr (h.bed b hb').1 (by rw [h.rb b hb']; simp)) (by rw [eb b hb']; simp), (h.bed b hb').2⟩, ?_, ?_, fun b n => ?_, ep, eb, S, h.ro.turn h.oo O (by decide), fun b n => (h.rn b n).turn (h.on b n) O (by simp)⟩
  · dsimp only
    rw [List.length_append, List.length_singleton, lrow_snoc k.loops m.tv ⟨c, t⟩ u]
    exact K2.row hv S (by decide)
  · exact K2.row (K.row h.oo h.ro (by decide)) (h.ro.turn h.oo O (by decide)) (by decide)
  · exact K2.row (K.row (h.on b n) (h.rn b n) (by simp)) ((h.rn b n).turn (h.on b n) O (by simp)) (by simp)
theorem TH.loop (h : TH w B m k.loops) (hm : MC w0 w B p N m k) {v' u : Value} {z : Nat} (hg : w.grownBy w1 m.vl.ownBlock) (hz : w.heap.size ≤ z) :
    TH (w1.setCell ⟨p, 0, none⟩ v') B { m with own := ow m.own z rL, vl := v', tv := fun i => if i = k.loops.length then u else m.tv i } k.loops := by
  have hp : p < w.heap.size := hm.arr.lt
  have h1 : TH w1 B { m with own := ow m.own z rL, vl := v', tv := fun i => if i = k.loops.length then u else m.tv i } k.loops :=
    h.turn (r := rL) (.of_grown hg fun g e => hm.rl g e) (ow_old hz) (fun i => by simp) (fun i hi => if_neg (by omega)) rfl
  exact h1.mach (p := p) (by show ow m.own z rL p = rM; rw [ow_ne _ _ (by omega)]; exact hm.rp) 0 v'
theorem Fr.loop (hm : MC w0 w B p N m k) {v' : Value} {z : Nat} (hg : w.grownBy w1 m.vl.ownBlock) (hz : w.heap.size ≤ z) {vl' : Value} {tv' : Nat → Value} :
    Fr m w { m with own := ow m.own z rL, vl := vl', tv := tv' } (w1.setCell ⟨p, 0, none⟩ v') :=
  .step (r := rL) (.of_grown hg fun g e => hm.rl g e) (by decide) (by rw [hm.rp]; decide) fun b hb hx => by show ow m.own z rL b = rX; rw [ow_ne _ _ (by omega)]; exact hx
/-- a needle holds something else -/
theorem MC.needle (h : MC w0 w B p N m k) {b : Int} {j : Nat} (ht : There N b (j : Int)) {v' : Value} {xs : List Int} {own' : Nat → Role} (hb : Below B w0 w1) (hk : Kept m.own (rN b (j : Int)) w w1)
    (ho : ∀ g, g < w.heap.size → m.own g ≠ rN b (j : Int) → own' g = m.own g) (hv : w1.ownsRow B 3 1 v' xs.length (ints xs)) (hs : Sep v' (rN b (j : Int)) own') :
    MC w0 (w1.setCell ⟨m.gb b, j, none⟩ v') B p N { m with own := own', hv := fun b' n' => if b' = b ∧ n' = (j : Int) then v' else m.hv b' n' } { k with on := put k.on b (j : Int) xs } := by
  have hp : p < w.heap.size := h.arr.lt
  have hj : j < N := by have := ht.2.2; omega
  have ep : own' p = rM := by rw [ho p hp (by rw [h.rp]; simp)]; exact h.rp
  have eb : ∀ b, b = 0 ∨ b = 1 → own' (m.gb b) = rB b := fun b hb' => by rw [ho _ (h.bed b hb').1.lt (by rw [h.rb b hb']; simp)]; exact h.rb b hb'
  have K2 : Kept own' (rB b) w1 (w1.setCell ⟨m.gb b, j, none⟩ v') := .set j _ (eb b ht.1)
  have sl := h.rl.turn h.ol ho (by simp)
  have so := h.ro.turn h.oo ho (by simp)
  have sn : ∀ b' n', ¬ (b' = b ∧ n' = (j : Int)) → Sep (m.hv b' n') (rN b' n') own' := fun b' n' hne => (h.rn b' n').turn (h.on b' n') ho (by simpa using hne)
  refine ⟨hb.setCell (h.bed b ht.1).2 _, h.hB, K2.arr (hk.arr h.arr (by rw [h.rp]; simp)) (by rw [ep]; simp), h.pB, fun b' hb' => ⟨?_, (h.bed b' hb').2⟩, K2.row (hk.row h.ol h.rl (by simp)) sl (by simp), K2.row (hk.row h.oo h.ro (by simp)) so (by simp), fun b' n' => ?_, ep, eb, sl, so, fun b' n' => ?_⟩
  · have ha := hk.arr (h.bed b' hb').1 (by rw [h.rb b' hb']; simp)
    by_cases hbb : b' = b
    · subst hbb
      have := ha.set j v'
      have e : (brow m N b').set j v' = brow { m with own := own', hv := fun b'' n' => if b'' = b' ∧ n' = (j : Int) then v' else m.hv b'' n' } N b' := by
        unfold brow
        apply List.ext_getElem
        · simp
        · intro i h1 h2
          simp only [List.length_set, List.length_map, List.length_range] at h1
          rw [List.getElem_set]
          by_cases hi : j = i
          · subst hi; simp
          · rw [if_neg hi]; simp; intro e; omega
      rw [← e]
      exact this
    · have e : brow { m with own := own', hv := fun b'' n' => if b'' = b ∧ n' = (j : Int) then v' else m.hv b'' n' } N b' = brow m N b' := by
        unfold brow
        refine List.map_congr_left fun i _ => ?_
        exact if_neg fun c => hbb c.1
      rw [e]
      exact K2.arr ha (by rw [eb b' hb']; simpa using hbb)
  · by_cases hne : b' = b ∧ n' = (j : Int)
    · obtain ⟨rfl, rfl⟩ := hne
      dsimp only
      rw [if_pos ⟨rfl, rfl⟩, put_same]
      exact K2.row hv hs (by simp)
    · dsimp only
      rw [if_neg hne, put_ne _ _ hne]
      exact K2.row (hk.row (h.on b' n') (h.rn b' n') (by simpa using hne)) (sn b' n' hne) (by simp)
  · by_cases hne : b' = b ∧ n' = (j : Int)
    · obtain ⟨rfl, rfl⟩ := hne
      dsimp only
      rw [if_pos ⟨rfl, rfl⟩]
      exact hs
    · dsimp only
      rw [if_neg hne]
      exact sn b' n' hne
theorem TH.needle (h : TH w B m ls) (hm : MC w0 w B p N m k) {b : Int} {j : Nat} (hbb : b = 0 ∨ b = 1) {v' : Value} {own' : Nat → Role} {hv' : Int → Int → Value} (hk : Kept m.own (rN b (j : Int)) w w1)
    (ho : ∀ g, g < w.heap.size → m.own g ≠ rN b (j : Int) → own' g = m.own g) : TH (w1.setCell ⟨m.gb b, j, none⟩ v') B { m with own := own', hv := hv' } ls := by
  have h1 : TH w1 B { m with own := own', hv := hv' } ls := h.turn (r := rN b (j : Int)) hk ho (fun i => by simp) (fun _ _ => rfl) rfl
  have eb : own' (m.gb b) = rB b := by rw [ho _ (hm.bed b hbb).1.lt (by rw [hm.rb b hbb]; simp)]; exact hm.rb b hbb
  exact h1.turn (r := rB b) (.set j v' eb) (fun _ _ _ => rfl) (fun i => by simp) (fun _ _ => rfl) rfl
/-- loops are dropped -/
theorem MC.loosen (h : MC w0 w B p N m k) {v' : Value} {z : Nat} {xs : List Int} (hg : w.grownBy w1 m.vo.ownBlock) (hz : w.heap.size ≤ z) (hb : Below B w0 w1)
    (hv : w1.ownsRow B 3 1 v' xs.length (ints xs)) (he : v'.ownBlock = m.vo.ownBlock ∨ v'.ownBlock = some z) :
    MC w0 (w1.setCell ⟨p, 3, none⟩ v') B p N { m with own := ow m.own z rO, vo := v' } { k with loose := xs } := by
  have hp : p < w.heap.size := h.arr.lt
  have K : Kept m.own rO w w1 := .of_grown hg fun g e => h.ro g e
  have O := ow_old (own := m.own) (r' := rO) hz
  have ep : ow m.own z rO p = rM := by rw [ow_ne _ _ (by omega)]; exact h.rp
  have eb : ∀ b, b = 0 ∨ b = 1 → ow m.own z rO (m.gb b) = rB b := fun b hb' => by rw [ow_ne _ _ (by have := (h.bed b hb').1.lt; omega)]; exact h.rb b hb'
  have S : Sep v' rO (ow m.own z rO) := h.ro.app h.oo hz he
  have K2 : Kept (ow m.own z rO) rM w1 (w1.setCell ⟨p, 3, none⟩ v') := .set 3 _ ep
  refine ⟨hb.setCell h.pB _, h.hB, (K.arr h.arr (by rw [h.rp]; decide)).set 3 _, h.pB, fun b hb' => ⟨K2.arr (K.arr (h.bed b hb').1 (by rw [h.rb b hb']; simp)) (by rw [eb b hb']; simp), (h.bed b hb').2⟩,
    K2.row (K.row h.ol h.rl (by decide)) (h.rl.turn h.ol O (by decide)) (by decide), K2.row hv S (by decide), fun b n => K2.row (K.row (h.on b n) (h.rn b n) (by simp)) ((h.rn b n).turn (h.on b n) O (by simp)) (by simp), ep, eb, h.rl.turn h.ol O (by decide), S, fun b n => (h.rn b n).turn (h.on b n) O (by simp)⟩
theorem TH.loosen (h : TH w B m ls) (hm : MC w0 w B p N m k) {v' : Value} {z : Nat} (hg : w.grownBy w1 m.vo.ownBlock) (hz : w.heap.size ≤ z) :
    TH (w1.setCell ⟨p, 3, none⟩ v') B { m with own := ow m.own z rO, vo := v' } ls := by
  have hp : p < w.heap.size := hm.arr.lt
  have h1 : TH w1 B { m with own := ow m.own z rO, vo := v' } ls := h.turn (r := rO) (.of_grown hg fun g e => hm.ro g e) (ow_old hz) (fun i => by simp) (fun _ _ => rfl) rfl
  exact h1.mach (p := p) (by show ow m.own z rO p = rM; rw [ow_ne _ _ (by omega)]; exact hm.rp) 3 v'
/-- the last loop was pulled through what a needle held -/
theorem TH.more (h : TH w B m ls) {l : Lop} {u : Value} (hu : w.ownsRow B 3 1 u l.thr.length (ints l.thr)) (hs : Sep u (rT ls.length) m.own) (e : m.tv ls.length = u) : TH w B m (ls ++ [l]) := fun i hi => by
  rw [List.length_append, List.length_singleton] at hi
  by_cases c : i < ls.length
  · have : (ls ++ [l]).getD i noLop = ls.getD i noLop := by simp [c, List.getElem?_append_left]
    rw [this]
    exact h i c
  · obtain rfl : i = ls.length := by omega
    have : (ls ++ [l]).getD ls.length noLop = l := by simp
    rw [this, e]
    exact ⟨hu, hs⟩
end
end Go.Proofs.Ytaacfjeddoekfaa
/- Chapter 11: the small functions of a machine. -/
namespace Go.Proofs.Ytaacfjeddoekfaa
open Go.RowKit
set_option linter.unusedVariables false

abbrev ptr (g o : Nat) : Value := .pointer (some ⟨g, o, none⟩)
abbrev spot (b n : Int) : Value := .agg #[.int .i64 b, .int .i64 n]
def big (n : Int) : Prop := -9223372036854775800 ≤ n ∧ n ≤ 9223372036854775800

theorem arr_new2 (w : World) (o : Obj) (cs : Array Value) (t : TypeId) : Arr ((w.alloc o).alloc (.cells cs t)) (w.heap.size + 1) t cs.toList := by
  have := Arr.new (w.alloc o) cs t
  rwa [World.size_alloc] at this

set_option maxHeartbeats 1000000 in
theorem facing_any {w0 w : World} {B p N : Nat} {m : MD} {k : KS} (h : MC w0 w B p N m k) (hr : -4 ≤ k.rack ∧ k.rack ≤ 4) (b n : Int) (hn : big n) :
    Calls Try.prog 49 #[ptr p 0, spot b n] w fun e w' => e = .returned (spot (fB b) (fN k.rack b n)) ∧ Below w.heap.size w w' := by
  have c4 := h.cell (j := 4) rfl
  have hp : p < w.heap.size := h.arr.lt
  have hb : Hid (∀ u, Below w.heap.size w ((w.alloc (.cells #[.int .i64 b, .int .i64 n] 82)).alloc u)) := fun u => ((Below.refl _ _).alloc (Nat.le_refl _) _).alloc (by simp) _
  obtain ⟨r1, r2⟩ := hr
  obtain ⟨n1, n2⟩ := hn
  clear h
  generalize k.rack = r at *
  by_cases hz : b = 0
  · subst hz
    have HE : Hid (fB 0 = 1 ∧ fN r 0 n = n - r) := ⟨rfl, rfl⟩
    go_enter Try.func49, Try.ntmps49
    go_wp2_with (go_quiet (fail))
    go_region
    go_wp2_with fail
    rw [HE.out.1, HE.out.2]
    exact bodyPost_ret (v := spot 1 (n - r)) (by simp [results, Try.results49, go_sem]) rfl ⟨rfl, below_dN (n := 1) (hb.out _)⟩
  · have hze : (b == 0) = false := by simpa using hz
    have HE : Hid (fB b = 0 ∧ fN r b n = n + r) := by show _ ∧ _; unfold fB fN; rw [if_neg hz, if_neg hz]; exact ⟨rfl, rfl⟩
    clear hz
    go_enter Try.func49, Try.ntmps49
    go_wp2_with (go_quiet (fail))
    go_region
    go_wp2_with fail
    rw [HE.out.1, HE.out.2]
    exact bodyPost_ret (v := spot 0 (n + r)) (by simp [results, Try.results49, go_sem]) rfl ⟨rfl, below_dN (n := 1) (hb.out _)⟩

set_option maxHeartbeats 1000000 in
theorem there_any {w0 w : World} {B p N : Nat} {m : MD} {k : KS} (h : MC w0 w B p N m k) (hN : N ≤ 128) (b n : Int) :
    Calls Try.prog 59 #[ptr p 0, spot b n] w fun e w' => e = .returned (.bool (decide (There N b n))) ∧ Below w.heap.size w w' := by
  have c1 := h.cell (j := 1) rfl
  have hp : p < w.heap.size := h.arr.lt
  have hb : Hid (Below w.heap.size w (w.alloc (.cells #[.int .i64 b, .int .i64 n] 82))) := (Below.refl _ _).alloc (Nat.le_refl _) _
  generalize m.gb 0 = g0 at *
  clear h
  have hcs : (b = 0 ∧ ¬ 0 ≤ n) ∨ (b = 0 ∧ 0 ≤ n ∧ n < N) ∨ (b = 0 ∧ 0 ≤ n ∧ ¬ n < N) ∨ (b = 1 ∧ ¬ 0 ≤ n) ∨ (b = 1 ∧ 0 ≤ n ∧ n < N) ∨ (b = 1 ∧ 0 ≤ n ∧ ¬ n < N) ∨ (b ≠ 0 ∧ b ≠ 1) := by omega
  have HT : Hid (There N b n ↔ (b = 0 ∨ b = 1) ∧ 0 ≤ n ∧ n < (N : Int)) := Iff.rfl
  rcases hcs with ⟨rfl, q1⟩ | ⟨rfl, q1, q2⟩ | ⟨rfl, q1, q2⟩ | ⟨rfl, q1⟩ | ⟨rfl, q1, q2⟩ | ⟨rfl, q1, q2⟩ | ⟨q1, q2⟩
  case inr.inl =>
    have HE : Hid (decide (There N 0 n) = true) := decide_eq_true (HT.out.2 ⟨.inl rfl, q1, q2⟩)
    go_enter Try.func59, Try.ntmps59
    go_wp2_with (go_quiet (fail))
    go_ret
    exact ⟨ret_bool HE.out.symm, below_dN hb.out⟩
  case inr.inr.inr.inr.inl =>
    have HE : Hid (decide (There N 1 n) = true) := decide_eq_true (HT.out.2 ⟨.inr rfl, q1, q2⟩)
    go_enter Try.func59, Try.ntmps59
    go_wp2_with (go_quiet (fail))
    go_ret
    exact ⟨ret_bool HE.out.symm, below_dN hb.out⟩
  case inr.inr.inr.inr.inr.inr =>
    have HE : Hid (decide (There N b n) = false) := decide_eq_false fun c => by have := HT.out.1 c; omega
    have q3 : (b == 0) = false := by simpa using q1
    have q4 : (b == 1) = false := by simpa using q2
    clear q1 q2
    go_enter Try.func59, Try.ntmps59
    go_wp2_with (go_quiet (fail))
    go_ret
    exact ⟨ret_bool HE.out.symm, below_dN hb.out⟩
  case inr.inr.inl =>
    have HE : Hid (decide (There N 0 n) = false) := decide_eq_false fun c => by have := HT.out.1 c; omega
    go_enter Try.func59, Try.ntmps59
    go_wp2_with (go_quiet (fail))
    go_ret
    exact ⟨ret_bool HE.out.symm, below_dN hb.out⟩
  case inr.inr.inr.inr.inr.inl =>
    have HE : Hid (decide (There N 1 n) = false) := decide_eq_false fun c => by have := HT.out.1 c; omega
    go_enter Try.func59, Try.ntmps59
    go_wp2_with (go_quiet (fail))
    go_ret
    exact ⟨ret_bool HE.out.symm, below_dN hb.out⟩
  all_goals
    have HE : Hid (decide (There N _ n) = false) := decide_eq_false fun c => by have := HT.out.1 c; omega
    have q2 : decide (0 ≤ n) = false := by simpa using q1
    have q3 : decide (n ≥ 0) = false := q2
    clear q1
    go_enter Try.func59, Try.ntmps59
    go_wp2_with (go_quiet (fail))
    go_ret
    exact ⟨ret_bool HE.out.symm, below_dN hb.out⟩

set_option maxHeartbeats 1000000 in
theorem at_any {w0 w : World} {B p N : Nat} {m : MD} {k : KS} (h : MC w0 w B p N m k) (hN : N ≤ 128) {b : Int} {j : Nat} (ht : There N b (j : Int)) :
    Calls Try.prog 47 #[ptr p 0, spot b (j : Int)] w fun e w' => e = .returned (ptr (m.gb b) j) ∧ Below w.heap.size w w' := by
  have c1 := h.cell (j := 1) rfl
  have c2 := h.cell (j := 2) rfl
  have hp : p < w.heap.size := h.arr.lt
  have hb : Hid (Below w.heap.size w (w.alloc (.cells #[.int .i64 b, .int .i64 (j : Int)] 82))) := (Below.refl _ _).alloc (Nat.le_refl _) _
  have hj : j < N := by have := ht.2.2; omega
  obtain ⟨hbb, _, _⟩ := ht
  clear h
  rcases hbb with rfl | rfl
  · generalize m.gb 0 = g0 at *
    generalize m.gb 1 = g1 at *
    go_enter Try.func47, Try.ntmps47
    go_wp2_with (go_quiet (fail))
    go_ret
    exact ⟨rfl, below_dN hb.out⟩
  · generalize m.gb 0 = g0 at *
    generalize m.gb 1 = g1 at *
    go_enter Try.func47, Try.ntmps47
    go_wp2_with (go_quiet (fail))
    go_ret
    exact ⟨rfl, below_dN hb.out⟩

theorem T23 : SliceT Try.prog 23 41 (.agg #[.int .i64 0, .slice none 0 0]) 2 32 := ⟨Try.underlying23, by kernel_rfl, rfl, by decide, by decide⟩
theorem T24 : SliceT Try.prog 24 25 (.slice none 0 0) 1 24 := ⟨Try.underlying24, by kernel_rfl, rfl, by decide, by decide⟩
theorem T25 : SliceT Try.prog 25 3 (.int .i64 0) 1 8 := ⟨Try.underlying25, by kernel_rfl, rfl, by decide, by decide⟩
theorem T34 : SliceT Try.prog 34 28 (.int .i64 0) 1 8 := ⟨Try.underlying34, by kernel_rfl, rfl, by decide, by decide⟩
theorem T22 : SliceT Try.prog 22 44 (.agg #[.int .i64 0, .int .i64 0, .int .i64 0, .int .i64 0, .int .i64 0]) 5 40 := ⟨Try.underlying22, by kernel_rfl, rfl, by decide, by decide⟩
theorem T56 : SliceT Try.prog 56 90 (.agg #[.int .i64 0, .int .i64 0, .int .i64 0]) 3 24 := ⟨Try.underlying56, by kernel_rfl, rfl, by decide, by decide⟩

end Go.Proofs.Ytaacfjeddoekfaa
