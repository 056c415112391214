/- Texts of the seat, put together: Paint, Shelf, Build. -/
import Derived.Test.YtmmakljmikdooaaDoorTw1
import Derived.Lib.RuneBytes
import Derived.Shelf.Unicode.DecodeSlow
import Derived.Shelf.Strings.BuilderF
import Derived.Shelf.Strings.BuilderK
import Derived.Shelf.Strings.BuilderRune
import Derived.Shelf.Unicode.DecodeAny
import Derived.Test.YtmmakljmikdooaaDoorLib
/- Chapter 2, plain: a chart in bytes, and what its text begins with. -/
namespace Go.Proofs.YtmmakljmikdooaaDoor
set_option linter.unusedVariables false

def encB (n : Nat) : List UInt8 := Lib.encodeRune (n : Int)
def rowC (c : Ch) (W : Nat) (y : Nat) : List Int := (c.cs.drop (y * W)).take W
def inkB (xs : List Int) : List UInt8 := xs.flatMap fun x => encB (signF x.toNat)
def lineB (xs : List Int) : List UInt8 := inkB xs ++ [10]
def headB (g : Int) : List UInt8 := if g = 4 then [226, 150, 161, 10] else [226, 150, 179, 10]
/-- the k highest rows -/
def rowsB (c : Ch) (W H k : Nat) : List UInt8 := (List.range k).flatMap fun i => lineB (rowC c W (H - 1 - i))
def printF (c : Ch) (W H : Nat) : List UInt8 := headB c.g ++ rowsB c W H H

theorem inkB_snoc (xs : List Int) (x : Int) : inkB (xs ++ [x]) = inkB xs ++ encB (signF x.toNat) := by
  unfold inkB; rw [List.flatMap_append]; simp
theorem rowsB_snoc (c : Ch) (W H k : Nat) : rowsB c W H (k + 1) = rowsB c W H k ++ lineB (rowC c W (H - 1 - k)) := by
  unfold rowsB; rw [List.range_succ, List.flatMap_append]; simp
theorem encB_len (n : Nat) : 1 ≤ (encB n).length ∧ (encB n).length ≤ 4 := by
  unfold encB Lib.encodeRune
  rw [List.length_map]
  exact Lib.encodeRuneZ_length _
theorem inkB_len : ∀ xs : List Int, (inkB xs).length ≤ 4 * xs.length
  | [] => by simp [inkB]
  | x :: xs => by
    have := inkB_len xs
    have := (encB_len (signF x.toNat)).2
    unfold inkB at *
    rw [List.flatMap_cons, List.length_append, List.length_cons]
    omega
theorem rowC_len_le (c : Ch) (W y : Nat) : (rowC c W y).length ≤ W := by
  unfold rowC; rw [List.length_take]; omega
theorem rowsB_len (c : Ch) (W H : Nat) : ∀ k, (rowsB c W H k).length ≤ k * (4 * W + 1)
  | 0 => by simp [rowsB]
  | k + 1 => by
    have h1 := rowsB_len c W H k
    rw [rowsB_snoc, List.length_append, Nat.succ_mul]
    unfold lineB
    rw [List.length_append, List.length_singleton]
    have h2 := inkB_len (rowC c W (H - 1 - k))
    have h3 := rowC_len_le c W (H - 1 - k)
    omega
theorem headB_len (g : Int) : (headB g).length = 4 := by unfold headB; split <;> rfl
theorem OkC.at_ {c : Ch} {W H : Nat} (h : OkC c W H) {y : Nat} (hy : y < H) : (y + 1) * W ≤ c.cs.length := by
  rw [h.len, Nat.mul_comm W H]
  exact Nat.mul_le_mul_right _ hy
theorem OkC.row_len {c : Ch} {W H : Nat} (h : OkC c W H) {y : Nat} (hy : y < H) : (rowC c W y).length = W := by
  have := h.at_ hy
  rw [Nat.succ_mul] at this
  unfold rowC
  rw [List.length_take, List.length_drop]
  omega
theorem OkC.row_get {c : Ch} {W H : Nat} (h : OkC c W H) {y x : Nat} (hy : y < H) (hx : x < W) : (rowC c W y)[x]? = c.cs[y * W + x]? := by
  unfold rowC
  rw [List.getElem?_take_of_lt hx, List.getElem?_drop]
theorem rowC_mem {c : Ch} {W H : Nat} (h : OkC c W H) {y : Nat} {x : Int} (hx : x ∈ rowC c W y) : 0 ≤ x ∧ x < 62 := by
  unfold rowC at hx
  exact h.cell x (List.mem_of_mem_drop (List.mem_of_mem_take hx))
theorem printF_len {c : Ch} {W H : Nat} (h : OkC c W H) : (printF c W H).length ≤ 65536 := by
  unfold printF
  rw [List.length_append, headB_len]
  have h1 := rowsB_len c W H H
  have h2 : H * (4 * W + 1) ≤ 64 * (4 * 64 + 1) := Nat.mul_le_mul h.H2 (by have := h.W2; omega)
  omega

/-! ### what a text begins with -/
theorem get!_cons0 (x : UInt8) (l : List UInt8) : ByteArray.get! ⟨(x :: l).toArray⟩ 0 = x := by
  simp [ByteArray.get!]
theorem get!_consS (x : UInt8) (l : List UInt8) (i : Nat) : ByteArray.get! ⟨(x :: l).toArray⟩ (i + 1) = ByteArray.get! ⟨l.toArray⟩ i := by
  simp [ByteArray.get!]
theorem size_mk (l : List UInt8) : ByteArray.size ⟨l.toArray⟩ = l.length := by
  simp [ByteArray.size]
theorem u8_nat {n : Nat} (h : n < 256) : (n.toUInt8).toNat = n := by
  show n % 256 = n
  omega
def dec (l : List UInt8) : Nat × Nat := Lib.decodeGo ⟨l.toArray⟩
theorem dec_nil : dec [] = (65533, 0) := rfl
theorem dec_one {n : Nat} (h : n < 128) (l : List UInt8) : dec (n.toUInt8 :: l) = (n, 1) := by
  unfold dec Lib.decodeGo
  rw [size_mk, if_neg (by simp), Lib.decode_at, size_mk, get!_cons0, u8_nat (by omega)]
  unfold Lib.decodeN
  rw [if_pos h]
theorem dec_two {a b : Nat} (h1 : 194 ≤ a ∧ a < 224) (h2 : 128 ≤ b ∧ b < 192) (l : List UInt8) : dec (a.toUInt8 :: b.toUInt8 :: l) = (a % 32 * 64 + b % 64, 2) := by
  unfold dec Lib.decodeGo
  rw [size_mk, if_neg (by simp), Lib.decode_at, size_mk, get!_cons0, get!_consS, get!_cons0, u8_nat (by omega), u8_nat (by omega)]
  unfold Lib.decodeN
  rw [if_neg (by omega), if_pos ⟨by omega, by simp only [List.length_cons]; omega, by omega⟩, if_pos (by omega)]
theorem dec_three {a b d : Nat} (h1 : 225 ≤ a ∧ a < 237) (h2 : 128 ≤ b ∧ b < 192) (h3 : 128 ≤ d ∧ d < 192) (l : List UInt8) : dec (a.toUInt8 :: b.toUInt8 :: d.toUInt8 :: l) = (a % 16 * 4096 + b % 64 * 64 + d % 64, 3) := by
  unfold dec Lib.decodeGo
  rw [size_mk, if_neg (by simp), Lib.decode_at, size_mk, get!_cons0, get!_consS, get!_cons0, show (0 + 2) = 0 + 1 + 1 by rfl, get!_consS, get!_consS, get!_cons0, u8_nat (by omega), u8_nat (by omega), u8_nat (by omega)]
  unfold Lib.decodeN
  rw [if_neg (by omega), if_neg (by omega), if_pos ⟨by omega, ⟨by simp only [List.length_cons]; omega, by omega⟩, by simp only [List.length_cons]; omega, by omega⟩, if_pos (by omega)]
theorem enc_one {n : Nat} (h : n < 128) : encB n = [n.toUInt8] := by
  unfold encB Lib.encodeRune
  rw [Lib.encodeRuneZ_one (by omega) (by omega)]
  simp
theorem enc_two {n : Nat} (h : 128 ≤ n ∧ n ≤ 2047) : encB n = [(192 + n / 64).toUInt8, (128 + n % 64).toUInt8] := by
  unfold encB Lib.encodeRune
  rw [Lib.encodeRuneZ_two (by omega) (by omega)]
  rw [show (192 + (n : Int) / 64) = ((192 + n / 64 : Nat) : Int) by omega, show (128 + (n : Int) % 64) = ((128 + n % 64 : Nat) : Int) by omega]
  simp only [List.map_cons, List.map_nil, Int.toNat_natCast]
theorem enc_three {n : Nat} (h : 2048 ≤ n ∧ n < 55296) : encB n = [(224 + n / 4096).toUInt8, (128 + n / 64 % 64).toUInt8, (128 + n % 64).toUInt8] := by
  unfold encB Lib.encodeRune
  rw [Lib.encodeRuneZ_three (by omega)]
  rw [show (224 + (n : Int) / 4096) = ((224 + n / 4096 : Nat) : Int) by omega, show (128 + (n : Int) / 64 % 64) = ((128 + n / 64 % 64 : Nat) : Int) by omega, show (128 + (n : Int) % 64) = ((128 + n % 64 : Nat) : Int) by omega]
  simp only [List.map_cons, List.map_nil, Int.toNat_natCast]
/-- what was written is read again -/
theorem dec_enc {n : Nat} (h : n < 10000) (h0 : n < 2048 ∨ 4096 ≤ n) (l : List UInt8) : dec (encB n ++ l) = (n, (encB n).length) := by
  rcases Nat.lt_or_ge n 128 with k | k
  · rw [enc_one k]
    exact dec_one k l
  rcases Nat.lt_or_ge n 2048 with k2 | k2
  · rw [enc_two ⟨k, by omega⟩]
    show dec (_ :: _ :: l) = _
    rw [dec_two (by omega) (by omega)]
    refine Prod.ext ?_ rfl
    show _ = n
    omega
  · rw [enc_three ⟨k2, by omega⟩]
    show dec (_ :: _ :: _ :: l) = _
    rw [dec_three (by omega) (by omega) (by omega)]
    refine Prod.ext ?_ rfl
    show _ = n
    omega
theorem dec_sign {x : Nat} (h : x < 62) (l : List UInt8) : dec (encB (signF x) ++ l) = (signF x, (encB (signF x)).length) := by
  refine dec_enc (signF_lt x h).2 ?_ l
  unfold signF skipF
  repeat' split
  all_goals omega
theorem dec_feed (l : List UInt8) : dec (10 :: l) = (10, 1) := dec_one (n := 10) (by omega) l
theorem dec_head (g : Int) (l : List UInt8) : dec (headB g ++ l) = (if g = 4 then 9633 else 9651, 3) := by
  unfold headB
  split
  · exact dec_three (a := 226) (b := 150) (d := 161) (by omega) (by omega) (by omega) (10 :: l)
  · exact dec_three (a := 226) (b := 150) (d := 179) (by omega) (by omega) (by omega) (10 :: l)
end Go.Proofs.YtmmakljmikdooaaDoor
/- The library's String, DecodeRuneInString, AppendRune, laid from the shelf at this program (printed by the kit's tool lay-plain). -/
namespace Go.Proofs.YtmmakljmikdooaaDoor
open Go.Shelf Go.RowKit
def lays169_ren : Go.Shelf.Ren := ⟨fun | 169 => 12 | n => n, fun | 70 => 42 | 9 => 9 | 0 => 0 | 72 => 45 | 37 => 43 | 127 => 67 | 3 => 3 | 5 => 5 | n => n, fun | n => n⟩
theorem lays169 : Go.Proofs.Lays.n169 Tryd.prog lays169_ren := {
  mixed := by kernel_rfl
  f169 := Tryd.func12.trans (congrArg some (by kernel_rfl))
  t0 := Tryd.underlying0
  a0 := Tryd.isAgg0
  z0 := Tryd.sizeOf0
  v0 := Tryd.zeroValue0
  t3 := Tryd.underlying3
  a3 := Tryd.isAgg3
  z3 := Tryd.sizeOf3
  v3 := Tryd.zeroValue3
  t9 := Tryd.underlying9
  a9 := Tryd.isAgg9
  z9 := Tryd.sizeOf9
  v9 := Tryd.zeroValue9
  t37 := Tryd.underlying43
  a37 := Tryd.isAgg43
  z37 := Tryd.sizeOf43
  v37 := Tryd.zeroValue43
  t70 := Tryd.underlying42
  a70 := Tryd.isAgg42
  z70 := Tryd.sizeOf42
  v70 := Tryd.zeroValue42
  t72 := Tryd.underlying45
  a72 := Tryd.isAgg45
  z72 := Tryd.sizeOf45
  v72 := Tryd.zeroValue45
  t127 := Tryd.underlying67
  a127 := Tryd.isAgg67
  z127 := Tryd.sizeOf67
  v127 := Tryd.zeroValue67 }
theorem bld_Extra_169 : Builder.Extra Tryd.prog lays169_ren := {
  sizeBuilder := by kernel_rfl
  liesBuilder := by kernel_rfl
  t5 := Tryd.underlying5
  a5 := Tryd.isAgg5
  z5 := Tryd.sizeOf5
  v5 := Tryd.zeroValue5
  infoByte := by kernel_rfl
  cellsByte := by kernel_rfl
  sizeByte := by kernel_rfl
  neB5 := by decide }
theorem bld_String_any_k (B b : Nat) (l : List UInt8) (w : World) (h : Lib.IsBuilderF 45 5 B b (Lib.byteCells l) w) (hBw : B ≤ w.heap.size) :
    Calls Tryd.prog 12 #[.pointer (some ⟨b, 0, none⟩)] w fun e w' => e = .returned (.string ⟨l.toArray⟩) ∧ (Lib.IsBuilderF 45 5 B b (Lib.byteCells l) w' ∧ Below B w w' ∧ Lib.OthersKept 5 (some b) w w') := Any.Builder_String_any_k lays169 bld_Extra_169 B b l w h hBw
def lays197_ren : Go.Shelf.Ren := ⟨fun | 197 => 39 | 260 => 63 | n => n, fun | 9 => 9 | 21 => 21 | 3 => 3 | 4 => 4 | 5 => 5 | 105 => 72 | 119 => 161 | 0 => 0 | 46 => 145 | 139 => 164 | 138 => 163 | n => n, fun | 3 => 0 | 4 => 1 | n => n⟩
theorem lays197 : Go.Proofs.Lays.n197 Tryd.prog lays197_ren := {
  mixed := by kernel_rfl
  f197 := Tryd.func39.trans (congrArg some (by kernel_rfl))
  f260 := Tryd.func63.trans (congrArg some (by kernel_rfl))
  t0 := Tryd.underlying0
  a0 := Tryd.isAgg0
  z0 := Tryd.sizeOf0
  v0 := Tryd.zeroValue0
  t3 := Tryd.underlying3
  a3 := Tryd.isAgg3
  z3 := Tryd.sizeOf3
  v3 := Tryd.zeroValue3
  t4 := Tryd.underlying4
  a4 := Tryd.isAgg4
  z4 := Tryd.sizeOf4
  v4 := Tryd.zeroValue4
  t5 := Tryd.underlying5
  a5 := Tryd.isAgg5
  z5 := Tryd.sizeOf5
  v5 := Tryd.zeroValue5
  t9 := Tryd.underlying9
  a9 := Tryd.isAgg9
  z9 := Tryd.sizeOf9
  v9 := Tryd.zeroValue9
  t21 := Tryd.underlying21
  a21 := Tryd.isAgg21
  z21 := Tryd.sizeOf21
  v21 := Tryd.zeroValue21
  t46 := Tryd.underlying145
  a46 := Tryd.isAgg145
  z46 := Tryd.sizeOf145
  v46 := Tryd.zeroValue145
  t105 := Tryd.underlying72
  a105 := Tryd.isAgg72
  z105 := Tryd.sizeOf72
  v105 := Tryd.zeroValue72
  t119 := Tryd.underlying161
  a119 := Tryd.isAgg161
  z119 := Tryd.sizeOf161
  t138 := Tryd.underlying163
  a138 := Tryd.isAgg163
  z138 := Tryd.sizeOf163
  v138 := Tryd.zeroValue163
  t139 := Tryd.underlying164
  a139 := Tryd.isAgg164
  z139 := Tryd.sizeOf164
  v139 := Tryd.zeroValue164
  g3 := by kernel_rfl
  g4 := by kernel_rfl }
theorem decode_any (s : ByteArray) (w : World) (hT : Lib.Utf8Tabs 0 1 w) :
    Calls Tryd.prog 39 #[.string s] w fun e w' => e = .returned (.tuple #[.int .i32 (Lib.decodeGo s).1, .int .i64 (Lib.decodeGo s).2]) ∧ Below w.heap.size w w' := Any.utf8_DecodeRuneInString lays197 s w hT
def lays242_ren : Go.Shelf.Ren := ⟨fun | 242 => 20 | 278 => 38 | n => n, fun | 72 => 45 | 37 => 43 | 21 => 21 | 51 => 111 | 4 => 4 | 5 => 5 | 46 => 145 | n => n, fun | n => n⟩
theorem lays242 : Go.Proofs.Lays.n242 Tryd.prog lays242_ren := {
  mixed := by kernel_rfl
  f242 := Tryd.func20.trans (congrArg some (by kernel_rfl))
  f278 := Tryd.func38.trans (congrArg some (by kernel_rfl))
  t4 := Tryd.underlying4
  a4 := Tryd.isAgg4
  z4 := Tryd.sizeOf4
  v4 := Tryd.zeroValue4
  t5 := Tryd.underlying5
  a5 := Tryd.isAgg5
  z5 := Tryd.sizeOf5
  v5 := Tryd.zeroValue5
  t21 := Tryd.underlying21
  a21 := Tryd.isAgg21
  z21 := Tryd.sizeOf21
  v21 := Tryd.zeroValue21
  t37 := Tryd.underlying43
  a37 := Tryd.isAgg43
  z37 := Tryd.sizeOf43
  v37 := Tryd.zeroValue43
  t46 := Tryd.underlying145
  a46 := Tryd.isAgg145
  z46 := Tryd.sizeOf145
  v46 := Tryd.zeroValue145
  t51 := Tryd.underlying111
  a51 := Tryd.isAgg111
  z51 := Tryd.sizeOf111
  v51 := Tryd.zeroValue111 }
theorem bld_Extra_242 : Builder.Extra Tryd.prog lays242_ren := {
  sizeBuilder := by kernel_rfl
  liesBuilder := by kernel_rfl
  t5 := Tryd.underlying5
  a5 := Tryd.isAgg5
  z5 := Tryd.sizeOf5
  v5 := Tryd.zeroValue5
  infoByte := by kernel_rfl
  cellsByte := by kernel_rfl
  sizeByte := by kernel_rfl
  neB5 := by decide }
theorem appendRune_any (B : Nat) (v : Value) (n : Nat) (xs : List Value) (r : Int) (hr0 : -2147483648 ≤ r) (hr1 : r ≤ 2147483647) (w : World) (hown : w.ownsRowF B 5 1 v n xs) (hlen : n + 4 ≤ 140737488355328) (hBw : B ≤ w.heap.size) :
    Calls Tryd.prog 20 #[v, .int .i32 r] w fun e w' => ∃ v', e = .returned v' ∧ w'.ownsRowF B 5 1 v' (n + (Lib.runeCells r).length) (xs ++ Lib.runeCells r) ∧ ∃ o, (w.alloc o).grownBy w' v.ownBlock :=
  Any.utf8_AppendRune_own lays242 bld_Extra_242 B v n xs r hr0 hr1 w hown hlen hBw
end Go.Proofs.YtmmakljmikdooaaDoor
/- The library's Builder: copyCheck, WriteString, WriteByte, WriteRune (worked proofs of the shelf turned to this program). -/
namespace Go.Proofs.YtmmakljmikdooaaDoor
open Go.Shelf Go.RowKit
set_option linter.unusedVariables false
set_option linter.unusedSimpArgs false

set_option maxHeartbeats 1000000 in
set_option maxRecDepth 100000 in
theorem copyFresh_any (b : Nat) (w : World) (h0 : w.cell? ⟨b, 0, none⟩ = some (.pointer none)) (hsh : w.shape? b = some (45, 2)) (hfz : w.frozen? ⟨b, 0, none⟩ = false) :
    Calls Tryd.prog 19 #[.pointer (some ⟨b, 0, none⟩)] w fun e w' => e = .returned (.tuple #[]) ∧ w' = w.setCell ⟨b, 0, none⟩ (.pointer (some ⟨b, 0, none⟩)) := by
  obtain ⟨j, hj, hjs⟩ := Option.map_eq_some_iff.1 bld_Extra_169.sizeBuilder
  go_enter Tryd.func19, Tryd.ntmps19
  go_wp2
  rw [Lib.run_to_unsafe w ⟨b, 0, none⟩ Tryd.underlying42 Tryd.underlying109 hj (by rw [hjs]; decide) hsh (Nat.zero_lt_succ 1)]
  simp only [Result.andThen]
  rw [Oper.upon_value]
  go_wp2
  rw [run_callFunc_extern Tryd.func37 (by kernel_rfl) (by kernel_rfl) (by kernel_rfl) (e := Extern.AbiNoEscape.same) (by kernel_rfl)]
  rw [Lib.run_noEscape]
  simp only [Result.andThen]
  rw [Oper.upon_value]
  go_wp2
  rw [Lib.run_from_unsafe w ⟨b, 0, none⟩ Tryd.underlying109 Tryd.underlying42 hj hsh bld_Extra_169.liesBuilder]
  simp only [Result.andThen]
  rw [Oper.upon_value]
  go_wp2
  go_end0
  exact ⟨rfl, rfl⟩
set_option maxHeartbeats 1000000 in
set_option maxRecDepth 100000 in
theorem copyUsed_any (b : Nat) (w : World) (h0 : w.cell? ⟨b, 0, none⟩ = some (.pointer (some ⟨b, 0, none⟩))) :
    Calls Tryd.prog 19 #[.pointer (some ⟨b, 0, none⟩)] w fun e w' => e = .returned (.tuple #[]) ∧ w' = w := by
  obtain ⟨j, hj, _⟩ := Option.map_eq_some_iff.1 bld_Extra_169.sizeBuilder
  go_enter Tryd.func19, Tryd.ntmps19
  go_wp2
  rw [Lib.run_neq_ptr_same w _ Tryd.underlying42 hj]
  go_wp2
  go_end0
  exact ⟨rfl, rfl⟩
/-- a builder at block b, its row above B -/
def Bld (B b : Nat) (l : List UInt8) (w : World) : Prop := Lib.IsBuilderF 45 5 B b (Lib.byteCells l) w
theorem copy_any (B b : Nat) (bs : List Value) (w : World) (h : Lib.IsBuilderF 45 5 B b bs w) :
    Calls Tryd.prog 19 #[.pointer (some ⟨b, 0, none⟩)] w fun e w' => e = .returned (.tuple #[]) ∧ Lib.BuilderAtF 45 5 B b (.pointer (some ⟨b, 0, none⟩)) bs w' ∧ Below B w w' := by
  rcases h with h | h
  · refine (copyFresh_any b w h.cell0 h.shape h.frozen0).mono ?_
    rintro e w' ⟨rfl, rfl⟩
    exact ⟨rfl, h.used _, (Below.refl B w).setCell (p := ⟨b, 0, none⟩) h.1 _⟩
  · refine (copyUsed_any b w h.cell0).mono ?_
    rintro e w' ⟨rfl, rfl⟩
    exact ⟨rfl, h, Below.refl B _⟩
set_option maxHeartbeats 2000000 in
set_option maxRecDepth 100000 in
theorem writeByte_any (B b : Nat) (bs : List Value) (c : Int) (w : World) (h : Lib.IsBuilderF 45 5 B b bs w) (hlen : bs.length + 1 ≤ 140737488355328) (hBw : B ≤ w.heap.size) :
    Calls Tryd.prog 11 #[.pointer (some ⟨b, 0, none⟩), .int .u8 c] w fun e w' => e = .returned .nilIface ∧ Lib.IsBuilderF 45 5 B b (bs ++ [.int .u8 c]) w' ∧ Below B w w' := by
  obtain ⟨i0, hi, hz0, hz1, hz2⟩ := info_parts bld_Extra_169.infoByte
  go_enter Tryd.func11, Tryd.ntmps11
  go_wp2_with fail
  refine (copy_any B b bs _ h).mono ?_
  rintro e w1 ⟨rfl, h1, hb1⟩
  obtain ⟨hB, v, hbk, hown, hne⟩ := h1
  have c0 : w1.cell? ⟨b, 0, none⟩ = some (.pointer (some ⟨b, 0, none⟩)) := by rw [Lib.cell_of_heap hbk]; rfl
  have c1 : w1.cell? ⟨b, 1, none⟩ = some v := by rw [Lib.cell_of_heap hbk]; rfl
  go_wp2_with (at_builtin; refine wpList_append_ownF _ rfl _ _ 43 rfl B 5 i0 (.int .u8 0) 1 1 Tryd.underlying43 hi hz0 hz1 hz2 rfl (by decide) _ _ _ rfl (hown.alloc _) ⟨w1.heap.size, 0, none⟩ 1 1 [.int .u8 c] rfl rfl ?c1 ?c2 ?c3 ?c4 ?c5 ?_)
  case c1 =>
    intro j u hj
    match j, hj with
    | 0, hj => simp at hj; subst hj; simp [Addr.add]
  case c2 => intro u hu; simp at hu; subst hu; rfl
  case c3 => unfold maxLen; omega
  case c4 => omega
  case c5 => have := hb1.size; simp; omega
  intro v' w2 hown' hgrow _
  have hlt : b < w1.heap.size := by
    rcases Nat.lt_or_ge b w1.heap.size with h' | h'
    · exact h'
    · simp [Array.getElem?_eq_none h'] at hbk
  have hb2 : w2.heap[b]? = some (.cells #[.pointer (some ⟨b, 0, none⟩), v] 45 (0, 0)) := by
    rw [hgrow.block b (by simp; omega) (fun e => hne e.symm), Lib.alloc_old w1 _ b hlt]
    exact hbk
  have d0 : w2.cell? ⟨b, 0, none⟩ = some (.pointer (some ⟨b, 0, none⟩)) := by rw [Lib.cell_of_heap hb2]; rfl
  have d1 : w2.cell? ⟨b, 1, none⟩ = some v := by rw [Lib.cell_of_heap hb2]; rfl
  have f1 : w2.frozen? ⟨b, 1, none⟩ = false := Lib.frozen_of_heap hb2 1
  obtain ⟨g, cap, rfl⟩ : ∃ g cap, v' = .slice (some ⟨g, 0, none⟩) (bs.length + 1) cap := by
    rcases hown'.2 with ⟨_, h0⟩ | ⟨g, cap, cur, fz, hv, _⟩
    · omega
    · exact ⟨g, cap, hv⟩
  go_wp2
  go_ret
  refine ⟨rfl, .inr ?_, ?_⟩
  · exact Lib.BuilderAtF.put (T := 45) (e := 5) hB hb2 (bs' := bs ++ [.int .u8 c]) (by simpa using hown') (by decide)
  · exact ((hb1.alloc (by have := hb1.size; omega) _).grown hgrow (by have := hb1.size; simp; omega) (fun k hk => (hown.lt k hk).1)).setCell (p := ⟨b, 1, none⟩) hB _
set_option maxHeartbeats 2000000 in
set_option maxRecDepth 100000 in
theorem writeString_any (B b : Nat) (bs : List Value) (s : ByteArray) (w : World) (h : Lib.IsBuilderF 45 5 B b bs w) (hlen : bs.length + s.size ≤ 140737488355328) (hBw : B ≤ w.heap.size) :
    Calls Tryd.prog 8 #[.pointer (some ⟨b, 0, none⟩), .string s] w fun e w' => e = .returned (.tuple #[.int .i64 s.size, .nilIface]) ∧ Lib.IsBuilderF 45 5 B b (bs ++ Lib.strCells s) w' ∧ Below B w w' := by
  obtain ⟨i0, hi, hz0, hz1, hz2⟩ := info_parts bld_Extra_169.infoByte
  go_enter Tryd.func8, Tryd.ntmps8
  go_wp2_with fail
  refine (copy_any B b bs _ h).mono ?_
  rintro e w1 ⟨rfl, h1, hb1⟩
  obtain ⟨hB, v, hbk, hown, hne⟩ := h1
  have c0 : w1.cell? ⟨b, 0, none⟩ = some (.pointer (some ⟨b, 0, none⟩)) := by rw [Lib.cell_of_heap hbk]; rfl
  have c1 : w1.cell? ⟨b, 1, none⟩ = some v := by rw [Lib.cell_of_heap hbk]; rfl
  go_wp2_with (at_builtin; refine Lib.wpList_append_own_stringF _ rfl _ _ 43 9 rfl B 5 i0 Tryd.underlying43 Tryd.underlying9 hi hz0 hz1 hz2 _ _ _ rfl hown s rfl ?c3 ?c4 ?c5 ?_)
  case c3 => unfold maxLen; omega
  case c4 => omega
  case c5 => have := hb1.size; omega
  intro v' w2 hown' hgrow _
  have hlt : b < w1.heap.size := by
    rcases Nat.lt_or_ge b w1.heap.size with h' | h'
    · exact h'
    · simp [Array.getElem?_eq_none h'] at hbk
  have hb2 : w2.heap[b]? = some (.cells #[.pointer (some ⟨b, 0, none⟩), v] 45 (0, 0)) := by
    rw [hgrow.block b hlt (fun e => hne e.symm)]
    exact hbk
  have d0 : w2.cell? ⟨b, 0, none⟩ = some (.pointer (some ⟨b, 0, none⟩)) := by rw [Lib.cell_of_heap hb2]; rfl
  have d1 : w2.cell? ⟨b, 1, none⟩ = some v := by rw [Lib.cell_of_heap hb2]; rfl
  have f1 : w2.frozen? ⟨b, 1, none⟩ = false := Lib.frozen_of_heap hb2 1
  obtain ⟨ao, n', cap, rfl⟩ : ∃ ao n' cap, v' = .slice ao n' cap := by
    rcases hown'.2 with ⟨hv, _⟩ | ⟨g, cap, cur, fz, hv, _⟩
    · exact ⟨_, _, _, hv⟩
    · exact ⟨_, _, _, hv⟩
  go_wp2
  go_ret2
  refine ⟨rfl, .inr ?_, ?_⟩
  · exact Lib.BuilderAtF.put (T := 45) (e := 5) hB hb2 (bs' := bs ++ Lib.strCells s) (by simpa [Lib.strCells_length] using hown') (by decide)
  · exact (hb1.grown hgrow (by have := hb1.size; omega) (fun k hk => (hown.lt k hk).1)).setCell (p := ⟨b, 1, none⟩) hB _
set_option maxHeartbeats 4000000 in
set_option maxRecDepth 100000 in
theorem writeRune_any (B b : Nat) (bs : List Value) (r : Int) (hr0 : -2147483648 ≤ r) (hr1 : r ≤ 2147483647) (w : World) (h : Lib.IsBuilderF 45 5 B b bs w) (hlen : bs.length + 4 ≤ 140737488355328) (hBw : B ≤ w.heap.size) :
    Calls Tryd.prog 9 #[.pointer (some ⟨b, 0, none⟩), .int .i32 r] w fun e w' => (∃ u, e = .returned u) ∧ Lib.IsBuilderF 45 5 B b (bs ++ Lib.runeCells r) w' ∧ Below B w w' := by
  have hk4 := Lib.runeCells_le r
  go_enter Tryd.func9, Tryd.ntmps9
  go_wp2_with fail
  refine (copy_any B b bs _ h).mono ?_
  rintro e w1 ⟨rfl, h1, hb1⟩
  obtain ⟨hB, v, hbk, hown, hne⟩ := h1
  obtain ⟨ao, cap, rfl⟩ : ∃ ao cap, v = .slice ao bs.length cap := by
    rcases hown.2 with ⟨hv, h0⟩ | ⟨g, cap, cur, fz, hv, _⟩
    · exact ⟨none, 0, by rw [hv, h0]⟩
    · exact ⟨_, _, hv⟩
  have c0 : w1.cell? ⟨b, 0, none⟩ = some (.pointer (some ⟨b, 0, none⟩)) := by rw [Lib.cell_of_heap hbk]; rfl
  have c1 : w1.cell? ⟨b, 1, none⟩ = some (.slice ao bs.length cap) := by rw [Lib.cell_of_heap hbk]; rfl
  go_wp2_with fail
  refine (appendRune_any B _ bs.length bs r hr0 hr1 _ hown hlen (by have := hb1.size; omega)).mono ?_
  rintro e w2 ⟨v', rfl, hown', o, hgrow⟩
  have hlt : b < w1.heap.size := by
    rcases Nat.lt_or_ge b w1.heap.size with h' | h'
    · exact h'
    · simp [Array.getElem?_eq_none h'] at hbk
  have hb2 : w2.heap[b]? = some (.cells #[.pointer (some ⟨b, 0, none⟩), .slice ao bs.length cap] 45 (0, 0)) := by
    rw [hgrow.block b (by simp; omega) (fun e => hne e.symm), Lib.alloc_old w1 _ b hlt]
    exact hbk
  have d0 : w2.cell? ⟨b, 0, none⟩ = some (.pointer (some ⟨b, 0, none⟩)) := by rw [Lib.cell_of_heap hb2]; rfl
  have d1 : w2.cell? ⟨b, 1, none⟩ = some (.slice ao bs.length cap) := by rw [Lib.cell_of_heap hb2]; rfl
  have f1 : w2.frozen? ⟨b, 1, none⟩ = false := Lib.frozen_of_heap hb2 1
  obtain ⟨g, cap', rfl⟩ : ∃ g cap', v' = .slice (some ⟨g, 0, none⟩) (bs.length + (Lib.runeCells r).length) cap' := by
    rcases hown'.2 with ⟨_, h0⟩ | ⟨g, cap', cur, fz, hv, _⟩
    · omega
    · exact ⟨g, cap', hv⟩
  go_wp2
  go_ret2
  refine ⟨⟨_, rfl⟩, .inr ?_, ?_⟩
  · exact Lib.BuilderAtF.put (T := 45) (e := 5) hB hb2 (bs' := bs ++ Lib.runeCells r) (by simpa using hown') (by decide)
  · exact ((hb1.alloc (by have := hb1.size; omega) _).grown hgrow (by have := hb1.size; simp; omega) (fun k hk => (hown.lt k hk).1)).setCell (p := ⟨b, 1, none⟩) hB _
end Go.Proofs.YtmmakljmikdooaaDoor
