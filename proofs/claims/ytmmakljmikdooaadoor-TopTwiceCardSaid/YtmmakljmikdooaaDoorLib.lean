/- Words for memory, and small laws on worlds: what the proofs of all seats use. -/
import Derived.Test.YtmmakljmikdooaaDoorRows
import Derived.WalkKit
import Derived.WalkSpells
import Derived.WalkLawsBesides
import Derived.Maps.AppendAt
import Derived.Lib.Hide
import Derived.Deep.Draws
namespace Go.Proofs.YtmmakljmikdooaaDoor
open Go.RowKit

/-! ### worlds -/

/-- all blocks of S are as they were -/
def Same (S : Nat → Prop) (w w' : World) : Prop := ∀ b, S b → w'.heap[b]? = w.heap[b]?

theorem Same.refl (S : Nat → Prop) (w : World) : Same S w w := fun _ _ => rfl
theorem Same.trans {S : Nat → Prop} {a b c : World} (h : Same S a b) (k : Same S b c) : Same S a c := fun i hi => (k i hi).trans (h i hi)
theorem Same.mono {S T : Nat → Prop} {a b : World} (h : Same S a b) (k : ∀ i, T i → S i) : Same T a b := fun i hi => h i (k i hi)
theorem Same.of_below {B : Nat} {w w' : World} (h : Below B w w') : Same (fun b => b < B) w w' := fun b hb => h.block b hb

/-- n cells from place o of block b on -/
structure Row (w : World) (S : Nat → Prop) (size : Nat) (A : Option Addr) (n : Nat) (xs : List Value) : Prop where
  len : xs.length = n * size
  at_ : 0 < n → ∃ b o, A = some ⟨b, o, none⟩ ∧ S b ∧ ∀ j u, xs[j]? = some u → w.cell? ⟨b, o + j, none⟩ = some u

section
variable {w w' : World} {S T : Nat → Prop} {size n : Nat} {A : Option Addr} {xs : List Value}

theorem Row.nil (w : World) (S : Nat → Prop) (size : Nat) (A : Option Addr) : Row w S size A 0 [] := ⟨by simp, fun h => absurd h (by omega)⟩

theorem Row.same (h : Row w S size A n xs) (k : Same S w w') : Row w' S size A n xs :=
  ⟨h.len, fun hn => by
    obtain ⟨b, o, e, hs, hc⟩ := h.at_ hn
    exact ⟨b, o, e, hs, fun j u hu => (World.cell?_of_block (a := ⟨b, o + j, none⟩) (k b hs)).trans (hc j u hu)⟩⟩

theorem Row.mono (h : Row w S size A n xs) (k : ∀ i, S i → T i) : Row w T size A n xs :=
  ⟨h.len, fun hn => by
    obtain ⟨b, o, e, hs, hc⟩ := h.at_ hn
    exact ⟨b, o, e, k b hs, hc⟩⟩

theorem Row.below {B : Nat} (h : Row w (fun b => b < B) size A n xs) (k : Below B w w') : Row w' (fun b => b < B) size A n xs := h.same (.of_below k)

/-- cell k of a row of one-cell elements -/
theorem Row.cell1 (h : Row w S 1 A n xs) {k : Nat} (hk : k < n) : ∃ b o u, A = some ⟨b, o, none⟩ ∧ S b ∧ xs[k]? = some u ∧ w.cell? ⟨b, o + k, none⟩ = some u := by
  obtain ⟨b, o, e, hs, hc⟩ := h.at_ (by omega)
  have hl : k < xs.length := by have := h.len; omega
  exact ⟨b, o, xs[k], e, hs, List.getElem?_eq_getElem hl, hc k _ (List.getElem?_eq_getElem hl)⟩

theorem Row.of_own {base : Nat} {e : TypeId} {c : Nat} (h : w.ownsRow base e size (.slice A n c) n xs) : Row w (fun b => base ≤ b ∧ b < w.heap.size) size A n xs := by
  refine ⟨h.1, fun hn => ?_⟩
  rcases h.2 with ⟨hv, h0⟩ | ⟨g, cap, cur, hv, hb, hg, rest⟩
  · omega
  · injection hv with hA
    refine ⟨g, 0, hA, ⟨hb, (Array.getElem?_eq_some_iff.1 hg).1⟩, fun j u hu => ?_⟩
    have := h.cells (g := g) (by rw [hA]; rfl) j u hu
    unfold Addr.add at this
    split at this
    · next h0 => subst h0; simpa using this
    · exact this
end

/-- an owned slice's value, with its address a letter -/
theorem own_form {w : World} {base : Nat} {e : TypeId} {size : Nat} {v : Value} {n : Nat} {xs : List Value} (h : w.ownsRow base e size v n xs) :
    ∃ A c, v = .slice A n c ∧ n ≤ c ∧ c ≤ maxLen := by
  rcases h.2 with ⟨rfl, rfl⟩ | ⟨g, cap, cur, rfl, _, _, hn, hm, _⟩
  · exact ⟨none, 0, rfl, Nat.le_refl _, by simp [maxLen]⟩
  · exact ⟨_, cap, rfl, hn, hm⟩

/-- a slice of ints reads as xs, in blocks of S -/
def Ints (w : World) (S : Nat → Prop) (v : Value) (xs : List Int) : Prop :=
  ∃ A c, v = .slice A xs.length c ∧ xs.length ≤ c ∧ c ≤ maxLen ∧ Row w S 1 A xs.length (xs.map (Value.int .i64))

theorem Ints.same {w w' : World} {S : Nat → Prop} {v : Value} {xs : List Int} (h : Ints w S v xs) (k : Same S w w') : Ints w' S v xs := by
  obtain ⟨A, c, e, h1, h2, h3⟩ := h
  exact ⟨A, c, e, h1, h2, h3.same k⟩
theorem Ints.mono {w : World} {S T : Nat → Prop} {v : Value} {xs : List Int} (h : Ints w S v xs) (k : ∀ i, S i → T i) : Ints w T v xs := by
  obtain ⟨A, c, e, h1, h2, h3⟩ := h
  exact ⟨A, c, e, h1, h2, h3.mono k⟩
theorem Ints.nil (w : World) (S : Nat → Prop) : Ints w S (.slice none 0 0) [] := ⟨none, 0, rfl, Nat.le_refl _, by simp [maxLen], .nil _ _ _ _⟩
theorem Ints.of_own {w : World} {base : Nat} {e : TypeId} {v : Value} {n : Nat} {xs : List Int} (h : w.ownsRow base e 1 v n (xs.map (Value.int .i64))) :
    Ints w (fun b => base ≤ b ∧ b < w.heap.size) v xs := by
  obtain ⟨A, c, rfl, h1, h2⟩ := own_form h
  have hl : xs.length = n := by have := h.1; simpa using this
  subst hl
  exact ⟨A, c, rfl, h1, h2, .of_own h⟩

/-- cell k of a slice of ints -/
theorem ints_cell {w : World} {S : Nat → Prop} {A : Option Addr} {xs : List Int} (h : Row w S 1 A xs.length (xs.map (Value.int .i64))) {k : Nat} (hk : k < xs.length) :
    ∃ b o, A = some ⟨b, o, none⟩ ∧ S b ∧ w.cell? ⟨b, o + k, none⟩ = some (.int .i64 xs[k]) := by
  obtain ⟨b, o, u, e, hs, hu, hc⟩ := h.cell1 hk
  simp [hk] at hu
  subst hu
  exact ⟨b, o, e, hs, hc⟩

theorem ret_congr {a b : Value} (h : a = b) : Ending.returned a = .returned b := by rw [h]
theorem ret_int {k : IntKind} {a b : Int} (h : a = b) : Ending.returned (.int k a) = .returned (.int k b) := by rw [h]
theorem ret_bool {a b : Bool} (h : a = b) : Ending.returned (.bool a) = .returned (.bool b) := by rw [h]

theorem ret_two {k l : IntKind} {a b c d : Int} (h1 : a = c) (h2 : b = d) : Ending.returned (.tuple #[.int k a, .int l b]) = .returned (.tuple #[.int k c, .int l d]) := by rw [h1, h2]

theorem below_of_drewN {B n : Nat} {w w' : World} (h : Below B (w.drewN n) w') : Below B w w' := ⟨h.os, h.tape, h.output, h.size, h.block⟩
theorem below_of_drew {B : Nat} {w w' : World} (h : Below B w.drew w') : Below B w w' := ⟨h.os, h.tape, h.output, h.size, h.block⟩

theorem below_step {B : Nat} {a b c : World} (h1 : Below B a b) (h2 : Below B a c) (hs : b.heap.size ≤ c.heap.size) : Below B b c :=
  ⟨h2.os.trans h1.os.symm, h2.tape.trans h1.tape.symm, h2.output.trans h1.output.symm, hs, fun k hk => (h2.block k hk).trans (h1.block k hk).symm⟩

/-- what the call owns stays owned where only new blocks have been written -/
theorem own_below {w w' : World} {base B : Nat} {e : TypeId} {size n : Nat} {v : Value} {xs : List Value} (h : w.ownsRow base e size v n xs) (hb : Below B w w') (hB : w.heap.size ≤ B) : w'.ownsRow base e size v n xs :=
  h.kept (row := none) ⟨hb.os, hb.tape, hb.output, hb.size, fun k hk _ => hb.block k (by omega)⟩ (by cases v.ownBlock <;> simp)

/-- an owned slice that is not empty: its block, its cells -/
theorem own_some {w : World} {base : Nat} {e : TypeId} {size : Nat} {A : Option Addr} {c : Nat} {n : Nat} {xs : List Value} (h : w.ownsRow base e size (.slice A n c) n xs) (hn : 0 < n) :
    ∃ g, A = some ⟨g, 0, none⟩ ∧ base ≤ g ∧ g < w.heap.size ∧ ∀ j u, xs[j]? = some u → w.cell? ⟨g, j, none⟩ = some u := by
  obtain ⟨b, o, rfl, ⟨h1, h2⟩, hc⟩ := (Row.of_own h).at_ hn
  rcases h.2 with ⟨hv, h0⟩ | ⟨g, cap, cur, hv, hb, hg, rest⟩
  · omega
  · injection hv with hA
    injection hA with hA
    injection hA with e1 e2
    subst e1 e2
    exact ⟨b, rfl, h1, h2, fun j u hu => by have := hc j u hu; rwa [Nat.zero_add] at this⟩

theorem below_al {B : Nat} {a w : World} (h : Below B a w) (hB : B ≤ a.heap.size) (o : Obj) : Below B a (w.alloc o) := h.alloc (Nat.le_trans hB h.size) o
theorem below_dN {B n : Nat} {a w : World} (h : Below B a w) : Below B a (w.drewN n) := ⟨h.os, h.tape, h.output, h.size, h.block⟩
theorem own_dN {w : World} {base k : Nat} {e : TypeId} {size n : Nat} {v : Value} {xs : List Value} (h : w.ownsRow base e size v n xs) : (w.drewN k).ownsRow base e size v n xs := h
theorem own_al {w : World} {base : Nat} {e : TypeId} {size n : Nat} {v : Value} {xs : List Value} (h : w.ownsRow base e size v n xs) (o : Obj) : (w.alloc o).ownsRow base e size v n xs := h.alloc o

/-- two slices of the call's own lie in two blocks -/
def Apart (u v : Value) : Prop := u.ownBlock = none ∨ v.ownBlock = none ∨ u.ownBlock ≠ v.ownBlock
theorem Apart.symm {u v : Value} (h : Apart u v) : Apart v u := by
  rcases h with h | h | h
  · exact .inr (.inl h)
  · exact .inl h
  · exact .inr (.inr (Ne.symm h))
theorem Apart.kept {u v : Value} {w w' : World} {base : Nat} {e : TypeId} {size n : Nat} {xs : List Value} (h : Apart u v) (hv : w.ownsRow base e size v n xs) (hg : w.grownBy w' u.ownBlock) : w'.ownsRow base e size v n xs := by
  refine hv.kept hg ?_
  rcases h with h | h | h
  · rw [h]; cases v.ownBlock <;> simp
  · exact .inl h
  · exact .inr (Ne.symm h)
theorem Apart.next {u u' v : Value} {w : World} {base : Nat} {e : TypeId} {size n m : Nat} {xs : List Value} (h : Apart u v) (hv : w.ownsRow base e size v n xs) (hm : w.heap.size ≤ m) (ho : u'.ownBlock = u.ownBlock ∨ u'.ownBlock = some m) : Apart u' v := by
  rcases ho with ho | ho
  · unfold Apart at *; rw [ho]; exact h
  · unfold Apart
    rw [ho]
    cases hb : v.ownBlock with
    | none => exact .inr (.inl rfl)
    | some k =>
      have := (hv.lt k hb).2
      exact .inr (.inr (by intro e; injection e with e; omega))
theorem Apart.nil (v : Value) : Apart (.slice none 0 0) v := .inl rfl

/-- block g is just the cells xs, of type t -/
def Arr (w : World) (g : Nat) (t : TypeId) (xs : List Value) : Prop := w.heap[g]? = some (.cells xs.toArray t (0, 0))
section
variable {w w' : World} {g : Nat} {t : TypeId} {xs : List Value}
theorem Arr.lt (h : Arr w g t xs) : g < w.heap.size := (Array.getElem?_eq_some_iff.1 h).1
theorem Arr.cell (h : Arr w g t xs) {k : Nat} {u : Value} (hu : xs[k]? = some u) : w.cell? ⟨g, k, none⟩ = some u := by
  rw [cell_of_row w g k xs.toArray t (0, 0) h]; simpa using hu
theorem Arr.free (h : Arr w g t xs) (k : Nat) : w.frozen? ⟨g, k, none⟩ = false := by
  unfold Arr at h
  simp [World.frozen?, h]
theorem Arr.set (h : Arr w g t xs) (k : Nat) (u : Value) : Arr (w.setCell ⟨g, k, none⟩ u) g t (xs.set k u) := by
  unfold Arr at *
  simp [World.setCell, Array.getElem?_modify, h]
theorem Arr.of_eq (h : Arr w g t xs) (e : w'.heap[g]? = w.heap[g]?) : Arr w' g t xs := e.trans h
theorem Arr.grown {row : Option Nat} (h : Arr w g t xs) (hg : w.grownBy w' row) (hne : row ≠ some g) : Arr w' g t xs := h.of_eq (hg.block g h.lt (Ne.symm hne))
theorem Arr.alloc (h : Arr w g t xs) (o : Obj) : Arr (w.alloc o) g t xs := h.of_eq (Below.heap_alloc w o g h.lt)
theorem Arr.dN (h : Arr w g t xs) (n : Nat) : Arr (w.drewN n) g t xs := h
theorem Arr.far (h : Arr w g t xs) {p : Addr} (hp : g ≠ p.block) (u : Value) : Arr (w.setCell p u) g t xs := h.of_eq (Below.heap_setCell w p u g hp)
theorem Arr.new (w : World) (cs : Array Value) (t : TypeId) : Arr (w.alloc (.cells cs t)) w.heap.size t cs.toList := by
  unfold Arr
  rw [heap_alloc_new]
end
theorem grownBy_set (w : World) (g k : Nat) (u : Value) : w.grownBy (w.setCell ⟨g, k, none⟩ u) (some g) :=
  ⟨rfl, rfl, rfl, by simp [World.setCell], fun i _ hne => Below.heap_setCell w _ u i (fun e => hne (by rw [e]))⟩
theorem grownBy_trans {a b c : World} {row : Option Nat} (h : a.grownBy b row) (k : b.grownBy c row) : a.grownBy c row :=
  ⟨k.os.trans h.os, k.tape.trans h.tape, k.output.trans h.output, Nat.le_trans h.size k.size, fun i hi hne => (k.block i (Nat.lt_of_lt_of_le hi h.size) hne).trans (h.block i hi hne)⟩
theorem grownBy_dN {a b : World} {row : Option Nat} {n : Nat} (h : a.grownBy b row) : a.grownBy (b.drewN n) row := ⟨h.os, h.tape, h.output, h.size, h.block⟩
theorem grownBy_al {a b : World} {row : Option Nat} (h : a.grownBy b row) (o : Obj) : a.grownBy (b.alloc o) row := grownBy_trans h (World.grownBy_alloc b o row)

theorem own_kept_lt {w w' : World} {base g : Nat} {e : TypeId} {size n : Nat} {v : Value} {xs : List Value} (h : w.ownsRow base e size v n xs) (hg : w.grownBy w' (some g)) (hlt : g < base) : w'.ownsRow base e size v n xs := by
  refine h.kept hg ?_
  cases hv : v.ownBlock with
  | none => exact .inl rfl
  | some k =>
    have := (h.lt k hv).1
    exact .inr (by intro e; injection e with e; omega)
theorem row_ne {w : World} {base g : Nat} {e : TypeId} {size n : Nat} {v : Value} {xs : List Value} (h : w.ownsRow base e size v n xs) (hlt : g < base) : v.ownBlock ≠ some g := by
  intro e
  have := (h.lt g e).1
  omega
theorem below_row {B base : Nat} {a w w' : World} {e : TypeId} {size n : Nat} {v : Value} {xs : List Value} (h : Below B a w) (ho : w.ownsRow base e size v n xs) (hg : w.grownBy w' v.ownBlock) (hB : B ≤ a.heap.size) (hb : B ≤ base) : Below B a w' :=
  h.grown hg (Nat.le_trans hB h.size) (fun k hk => Nat.le_trans hb (ho.lt k hk).1)
theorem below_one {B g : Nat} {a w w' : World} (h : Below B a w) (hg : w.grownBy w' (some g)) (hB : B ≤ a.heap.size) (hb : B ≤ g) : Below B a w' :=
  h.grown hg (Nat.le_trans hB h.size) (fun k hk => by injection hk with hk; omega)

/-! ### append -/

/-- type t is []e, an element of e has size cells and bytes bytes -/
structure SliceT (P : Program) (t e : TypeId) (z : Value) (size bytes : Nat) : Prop where
  ht : P.underlying t = some (.slice e)
  hi : (P.info? e).map (fun i => (i.zero, i.size, i.bytes)) = some (some z, size, bytes)
  hz : z.cells.size = size
  hs : 0 < size
  hb : 0 < bytes

theorem grownBy_alloc_first {w w' : World} {o : Obj} {row : Option Nat} (h : (w.alloc o).grownBy w' row) : w.grownBy w' row :=
  ⟨h.os, h.tape, h.output, Nat.le_trans (by simp) h.size, fun k hk hne => (h.block k (by simp; omega) hne).trans (Below.heap_alloc w o k hk)⟩

theorem below_owned {B : Nat} {a w w' : World} {e : TypeId} {size n : Nat} {v : Value} {xs : List Value} (h : Below B a w) (ho : w.ownsRow B e size v n xs) (hg : w.grownBy w' v.ownBlock) (hB : B ≤ a.heap.size) : Below B a w' :=
  h.grown hg (Nat.le_trans hB h.size) (fun k hk => (ho.lt k hk).1)

theorem own_base {w : World} {B B' : Nat} {e : TypeId} {size n : Nat} {v : Value} {xs : List Value} (h : w.ownsRow B e size v n xs) (hB : B' ≤ B) : w.ownsRow B' e size v n xs := by
  refine ⟨h.1, ?_⟩
  rcases h.2 with h2 | ⟨g, cap, cur, hv, hg, r⟩
  · exact .inl h2
  · exact .inr ⟨g, cap, cur, hv, Nat.le_trans hB hg, r⟩

/-- what follows the first k elements -/
theorem Row.cut {w : World} {S : Nat → Prop} {size n : Nat} {b o : Nat} {xs : List Value} (h : Row w S size (some ⟨b, o, none⟩) n xs) (k : Nat) (hk : k ≤ n) :
    Row w S size (some ⟨b, o + k * size, none⟩) (n - k) (xs.drop (k * size)) := by
  refine ⟨by rw [List.length_drop, h.len, Nat.sub_mul], fun hn => ?_⟩
  obtain ⟨b', o', e, hs, hc⟩ := h.at_ (by omega)
  injection e with e; injection e with e1 e2
  subst e1 e2
  refine ⟨b, o + k * size, rfl, hs, fun j u hu => ?_⟩
  rw [Nat.add_assoc]
  exact hc _ u (by rw [← hu, List.getElem?_drop])

section
variable {P : Program}

theorem run_mk {t e : TypeId} {z : Value} {size bytes : Nat} (T : SliceT P t e z size bytes) (n c : Nat) (hnc : n ≤ c) (hb : bytes * c ≤ 281474976710656) (w : World) :
    (Instr.makeSlice t (.int .i64 (n : Int)) (.int .i64 (c : Int))).run P w = .ok (.slice (some ⟨w.heap.size, 0, none⟩) n c) (w.alloc (.cells (madeCells z.cells (c * size)) e)) := by
  obtain ⟨i, hi0, hz, hsize, hby⟩ := info_parts T.hi
  have hc : c ≤ bytes * c := Nat.le_mul_of_pos_left _ T.hb
  have hb' : (i.bytes : Int) * (c : Int) ≤ 281474976710656 := by
    rw [hby, ← Int.natCast_mul]; omega
  have hr := run_make (P := P) w t e i z T.ht hi0 hz .i64 .i64 n c (by omega) (by omega) hb' (by omega)
  simp only [Int.toNat_natCast] at hr
  rw [hr, hsize]
theorem run_mk0 {t e : TypeId} {z : Value} {size bytes : Nat} (T : SliceT P t e z size bytes) (c : Nat) (hb : bytes * c ≤ 281474976710656) (w : World) :
    (Instr.makeSlice t (.int .i64 0) (.int .i64 (c : Int))).run P w = .ok (.slice (some ⟨w.heap.size, 0, none⟩) 0 c) (w.alloc (.cells (madeCells z.cells (c * size)) e)) :=
  run_mk T 0 c (Nat.zero_le _) hb w
theorem own_mk0 {t e : TypeId} {z : Value} {size bytes : Nat} (T : SliceT P t e z size bytes) (w : World) (base c : Nat) (hbase : base ≤ w.heap.size) (hb : bytes * c ≤ 281474976710656) :
    (w.alloc (.cells (madeCells z.cells (c * size)) e)).ownsRow base e size (.slice (some ⟨w.heap.size, 0, none⟩) 0 c) 0 [] :=
  World.ownsRow_made w _ c hbase (by have hc : c ≤ bytes * c := Nat.le_mul_of_pos_left _ T.hb; unfold maxLen; omega) (size_madeCells _ _)

/-- append of m elements that lie from place p of block g on -/
theorem wp_app {W w0 : World} {o : Oper} {a : Act} {K : Act → World → Prop} {Q : Exit → Act → World → Prop} {s x : Operand} {t e : TypeId} {z : Value} {size bytes : Nat}
    (T : SliceT P t e z size bytes) (us : List Value) {base : Nat} {v : Value} {n m g p c : Nat} {xs : List Value}
    (hown : W.ownsRow base e size v n xs) (hb : Below base w0 W) (hbase : base ≤ w0.heap.size)
    (ho : o.op = .call { callee := .builtin .append, args := #[s, x], argTypes := #[t, t] })
    (hs : a.eval s = v) (hx : a.eval x = .slice (some ⟨g, p, none⟩) m c)
    (hl : us.length = m * size) (hnews : ∀ j u, us[j]? = some u → W.cell? ⟨g, p + j, none⟩ = some u) (h1 : ∀ u ∈ us, u.oneCell' = true) (hbytes : (n + m) * bytes ≤ 140737488355328)
    (h : ∀ v' w', w'.ownsRow base e size v' (n + m) (xs ++ us) → Below base w0 w' → W.grownBy w' v.ownBlock → (v'.ownBlock = v.ownBlock ∨ v'.ownBlock = some W.heap.size) →
      K (a.put o.dst v') w') : o.wp P a W K Q := by
  obtain ⟨i, hi0, hz, hsize, hby⟩ := info_parts T.hi
  have hbs : base ≤ W.heap.size := Nat.le_trans hbase hb.size
  have hn1 : n + m ≤ maxLen := by
    have h3 : n + m ≤ (n + m) * bytes := Nat.le_mul_of_pos_right _ T.hb
    unfold maxLen
    omega
  obtain ⟨v', w', hr, h2, h3, _, h5⟩ := run_append_own_at (P := P) W base t o.type e i z size bytes T.ht hi0 hz hsize hby T.hz T.hs v n xs hown ⟨g, p, none⟩ m c us hl
    (fun j u hu => by rw [Addr.add_lit]; exact hnews j u hu) h1 hn1 hbytes hbs
  unfold Oper.wp execOp
  simp only [ho, resolve, invoke, builtin, Sem.run_bind, Sem.run_pure, Result.andThen_ok, List.map_toArray, List.map_cons, List.map_nil, hs, hx, hr]
  exact h v' w' h2 (below_owned hb hown h3 hbase) h3 h5

theorem step_app {W w0 : World} {ops : Array Oper} {o : Oper} {a : Act} {K : Act → World → Prop} {Q : Exit → Act → World → Prop} {E : Prop} {s x : Operand} {t e : TypeId} {z : Value} {size bytes : Nat}
    (T : SliceT P t e z size bytes) (us : List Value) {base : Nat} {v : Value} {n m g p c : Nat} {xs : List Value}
    (hown : W.ownsRow base e size v n xs) (hb : Below base w0 W) (hbase : base ≤ w0.heap.size)
    (hgd : o.guard = none)
    (ho : o.op = .call { callee := .builtin .append, args := #[s, x], argTypes := #[t, t] })
    (hs : a.eval s = v) (hx : a.eval x = .slice (some ⟨g, p, none⟩) m c)
    (hl : us.length = m * size) (hnews : ∀ j u, us[j]? = some u → W.cell? ⟨g, p + j, none⟩ = some u) (h1 : ∀ u ∈ us, u.oneCell' = true) (hbytes : (n + m) * bytes ≤ 140737488355328)
    (h : ∀ v' w', w'.ownsRow base e size v' (n + m) (xs ++ us) → Below base w0 w' → W.grownBy w' v.ownBlock → (v'.ownBlock = v.ownBlock ∨ v'.ownBlock = some W.heap.size) →
      K (a.put o.dst v') w') : if Region.wanted o (yielded ops a.tmps) = true then Oper.wp P o a W K Q else E := by
  rw [if_pos (by simp [Region.wanted, hgd])]
  exact wp_app T us hown hb hbase ho hs hx hl hnews h1 hbytes h

theorem news_alloc (w : World) (us : List Value) (et : TypeId) : ∀ j u, us[j]? = some u → (w.alloc (.cells us.toArray et)).cell? ⟨w.heap.size, 0 + j, none⟩ = some u := by
  intro j u hu
  rw [cell_of_row _ w.heap.size (0 + j) us.toArray et (0, 0) (heap_alloc_new w _), Nat.zero_add]
  simpa using hu

/-- 'out = append(out, x)' in a plain region: x lies, cell by cell, in the block that was just laid. -/
theorem app_el {w w0 : World} {ops : Array Oper} {rest : List Oper} {o : Oper} {a : Act} {Q : Exit → Act → World → Prop} {s x : Operand} {t e : TypeId} {z : Value} {size bytes : Nat}
    (T : SliceT P t e z size bytes) (us : List Value) {base : Nat} {v : Value} {n : Nat} {xs : List Value} {et : TypeId}
    (hown : w.ownsRow base e size v n xs) (hb : Below base w0 w) (hbase : base ≤ w0.heap.size)
    (hgd : o.guard = none)
    (ho : o.op = .call { callee := .builtin .append, args := #[s, x], argTypes := #[t, t] })
    (hs : a.eval s = v) (hx : a.eval x = .slice (some ⟨w.heap.size, 0, none⟩) 1 1)
    (hl : us.length = size) (h1 : ∀ u ∈ us, u.oneCell' = true) (hbytes : (n + 1) * bytes ≤ 140737488355328)
    (h : ∀ v' w', w'.ownsRow base e size v' (n + 1) (xs ++ us) → Below base w0 w' → w.grownBy w' v.ownBlock → (v'.ownBlock = v.ownBlock ∨ v'.ownBlock = some (w.heap.size + 1)) →
      wpList P ops Q rest (a.put o.dst v') w') : wpList P ops Q (o :: rest) a (w.alloc (.cells us.toArray et)) :=
  wpList_plain hgd fun K hK =>
    wp_app T us (hown.alloc _) (hb.alloc (Nat.le_trans hbase hb.size) _) hbase ho hs hx (by simpa using hl) (news_alloc w us et) h1 hbytes
      fun v' w' h2 h3 h4 h5 => hK _ _ (h v' w' h2 h3 (grownBy_alloc_first h4) (by simpa using h5))

/-- the same in a region that draws its order -/
theorem step_app_el {w w0 : World} {ops : Array Oper} {o : Oper} {a : Act} {K : Act → World → Prop} {Q : Exit → Act → World → Prop} {E : Prop} {s x : Operand} {t e : TypeId} {z : Value} {size bytes : Nat}
    (T : SliceT P t e z size bytes) (us : List Value) {base : Nat} {v : Value} {n : Nat} {xs : List Value} {et : TypeId}
    (hown : w.ownsRow base e size v n xs) (hb : Below base w0 w) (hbase : base ≤ w0.heap.size)
    (hgd : o.guard = none)
    (ho : o.op = .call { callee := .builtin .append, args := #[s, x], argTypes := #[t, t] })
    (hs : a.eval s = v) (hx : a.eval x = .slice (some ⟨w.heap.size, 0, none⟩) 1 1)
    (hl : us.length = size) (h1 : ∀ u ∈ us, u.oneCell' = true) (hbytes : (n + 1) * bytes ≤ 140737488355328)
    (h : ∀ v' w', w'.ownsRow base e size v' (n + 1) (xs ++ us) → Below base w0 w' → w.grownBy w' v.ownBlock → (v'.ownBlock = v.ownBlock ∨ v'.ownBlock = some (w.heap.size + 1)) →
      K (a.put o.dst v') w') : if Region.wanted o (yielded ops a.tmps) = true then Oper.wp P o a (w.alloc (.cells us.toArray et)).drew K Q else E :=
  step_app T us (hown.alloc _).drew (hb.alloc (Nat.le_trans hbase hb.size) _).drew hbase hgd ho hs hx (by simpa using hl) (news_alloc w us et) h1 hbytes
    fun v' w' h2 h3 h4 h5 => h v' w' h2 h3 (grownBy_alloc_first (w := w) (o := .cells us.toArray et) ⟨h4.os, h4.tape, h4.output, h4.size, h4.block⟩) (by simpa using h5)
end
end Go.Proofs.YtmmakljmikdooaaDoor
