/- Chapter 11: the reference's machine: who is where. -/
import Derived.Test.YtaacfjeddoekfaaKnitBuild
import Derived.Test.YtaacfjeddoekfaaPlan
namespace Go.Proofs.Ytaacfjeddoekfaa
open Go.RowKit
set_option linter.unusedVariables false
set_option linter.unusedSimpArgs false

/-- a loop on a needle -/
structure Hd where
  l : Int
  b : Int
  n : Int
def Hd.cells (h : Hd) : List Value := [.int .i64 h.l, .int .i64 h.b, .int .i64 h.n]
theorem Hd.cells_len (h : Hd) : h.cells.length = 3 := rfl
def Hd.at_ (h : Hd) (b n : Int) : Bool := h.b == b && h.n == n
def heldOn (hs : List Hd) (b n : Int) : List Int := (hs.filter fun h => h.at_ b n).map Hd.l
def heldOff (hs : List Hd) (b n : Int) : List Hd := hs.filter fun h => !h.at_ b n
abbrev Helds := Els Hd.cells 3
theorem hd_cells {w : World} {S : Nat → Prop} {A : Option Addr} {hs : List Hd} (hr : Row w S 3 A hs.length (hs.flatMap Hd.cells)) {k : Nat} (hk : k < hs.length) :
    ∃ b o, A = some ⟨b, o, none⟩ ∧ S b ∧ w.cell? ⟨b, o + k * 3, none⟩ = some (.int .i64 hs[k].l) ∧ w.cell? ⟨b, o + k * 3 + 1, none⟩ = some (.int .i64 hs[k].b) ∧ w.cell? ⟨b, o + k * 3 + 2, none⟩ = some (.int .i64 hs[k].n) := by
  obtain ⟨b, o, e, hs, hc⟩ := els_at Hd.cells_len hr (by decide) hk
  exact ⟨b, o, e, hs, hc 0 _ rfl, hc 1 _ rfl, hc 2 _ rfl⟩
theorem hrow_of {w : World} {S : Nat → Prop} {A : Option Addr} {n c : Nat} {l : List Hd} (h : Helds w S (.slice A n c) l) : Row w S 3 A l.length (l.flatMap Hd.cells) := by
  obtain ⟨A', c', e, _, _, h⟩ := h
  cases e
  exact h
theorem heldOn_snoc (hs : List Hd) (h : Hd) (b n : Int) : heldOn (hs ++ [h]) b n = heldOn hs b n ++ if h.at_ b n then [h.l] else [] := by
  unfold heldOn
  rw [List.filter_append, List.map_append]
  congr 1
  cases e : h.at_ b n <;> simp [e]
theorem heldOff_snoc (hs : List Hd) (h : Hd) (b n : Int) : heldOff (hs ++ [h]) b n = heldOff hs b n ++ if h.at_ b n then [] else [h] := by
  unfold heldOff
  rw [List.filter_append]
  congr 1
  cases e : h.at_ b n <;> simp [e]
theorem heldOn_len (hs : List Hd) (b n : Int) : (heldOn hs b n).length ≤ hs.length := by unfold heldOn; rw [List.length_map]; exact List.length_filter_le _ _
theorem heldOff_len (hs : List Hd) (b n : Int) : (heldOff hs b n).length ≤ hs.length := List.length_filter_le _ _
/-- a state's value -/
def sval (N : Int) (vl vh vo : Value) (r d : Int) : Value := .agg #[.int .i64 N, vl, vh, vo, .int .i64 r, .int .i64 d]
/-- nil, or a slice that begins somewhere -/
def NilOr (v : Value) : Prop := v = .slice none 0 0 ∨ ∃ g p n c, v = .slice (some ⟨g, p, none⟩) n c
theorem NilOr.of_own {w : World} {base : Nat} {e : TypeId} {size n : Nat} {v : Value} {xs : List Value} (h : w.ownsRow base e size v n xs) : NilOr v := by
  rcases own_nil_or h with ⟨e, _⟩ | ⟨g, c, e, _⟩
  · exact .inl e
  · exact .inr ⟨g, 0, _, c, e⟩
/-- a slice -/
def IsSl (v : Value) : Prop := ∃ A n c, v = .slice A n c

set_option maxRecDepth 100000 in
set_option maxHeartbeats 2000000 in
theorem On_any {N r d b n : Int} {vl vh vo : Value} {hs : List Hd} (w : World) (h1 : IsSl vl) (hv : Helds w (fun b => b < w.heap.size) vh hs) (h2 : IsSl vo) (hl : hs.length ≤ 1000000) :
    Calls Try.prog 51 #[sval N vl vh vo r d, .int .i64 b, .int .i64 n] w fun e w' => ∃ u, e = .returned u ∧ Ints w' (fun b => w.heap.size ≤ b ∧ b < w'.heap.size) u (heldOn hs b n) ∧ Below w.heap.size w w' ∧ NilOr u := by
  have HV := Lib.hid hv
  obtain ⟨A0, n0, c0, rfl⟩ := h1
  obtain ⟨A2, n2, c2, rfl⟩ := h2
  obtain ⟨A, c, rfl, g1, g2, hr⟩ := hv
  clear hr
  unfold maxLen at g2
  unfold sval
  have HB0 : Hid (Below w.heap.size w (w.alloc (.cells #[.int .i64 N, .slice A0 n0 c0, .slice A hs.length c, .slice A2 n2 c2, .int .i64 r, .int .i64 d] 58))) := (Below.refl _ _).alloc (Nat.le_refl _) _
  go_enter Try.func51, Try.ntmps51
  go_wp2_with fail
  go_loopg [7, 13] hs.length (fun gg out ctr wr => ∃ i : Nat, i ≤ hs.length ∧ gg = hs.length - i ∧ ctr = .int .i64 i ∧ wr.ownsRow w.heap.size 3 1 out (heldOn (hs.take i) b n).length (ints (heldOn (hs.take i) b n)) ∧ Below w.heap.size w wr)
  case atStart => exact ⟨0, by omega, rfl, rfl, World.ownsRow_nil _ _ _ _, HB0.out⟩
  case round =>
    clear HB0
    obtain ⟨i, hi, rfl, rfl, ho, hb⟩ := hrel
    have HO := Lib.hid ho
    have HB := Lib.hid hb
    clear ho hb
    by_cases hlt : i < hs.length
    case neg =>
      obtain rfl : i = hs.length := by omega
      rw [List.take_length] at HO
      go_wp2_with fail
      go_ret
      exact ⟨_, rfl, Ints.of_own HO.out, HB.out, NilOr.of_own HO.out⟩
    obtain ⟨bk, o, e, hbk, x0, x1, x2⟩ := hd_cells (hrow_of (HV.out.same (Same.of_below HB.out))) hlt
    cases e
    have hbw : bk < wr.heap.size := Nat.lt_of_lt_of_le hbk HB.out.size
    have HS : Hid (heldOn (hs.take (i + 1)) b n = heldOn (hs.take i) b n ++ if hs[i].at_ b n then [hs[i].l] else []) := by
      show _ = _
      rw [List.take_succ_eq_append_getElem hlt, heldOn_snoc]
    have hlen : (heldOn (hs.take i) b n).length ≤ 1000000 := by have := heldOn_len (hs.take i) b n; rw [List.length_take] at this; omega
    have HAT : Hid (hs[i].at_ b n = (hs[i].b == b && hs[i].n == n)) := rfl
    generalize hs[i] = x at *
    generalize hL : heldOn (hs.take i) b n = L at *
    have HL := Lib.hid hL
    clear hL
    by_cases c1 : x.b = b
    · by_cases c2 : x.n = n
      · have q1 : (x.b == b) = true := by simpa using c1
        have q2 : (x.n == n) = true := by simpa using c2
        have HE : Hid (heldOn (hs.take (i + 1)) b n = L ++ [x.l]) := by show _ = _; rw [HS.out, HAT.out, q1, q2]; rfl
        have HO2 : Hid ((wr.alloc (.cells #[.int .i64 x.l, .int .i64 x.b, .int .i64 x.n] 90)).ownsRow w.heap.size 3 1 u7 L.length (ints L)) := own_al HO.out _
        have HB2 : Hid (Below w.heap.size w (wr.alloc (.cells #[.int .i64 x.l, .int .i64 x.b, .int .i64 x.n] 90))) := HB.out.alloc HB.out.size _
        clear c1 c2 HO HB
        have y0 := (Arr.new wr #[.int .i64 x.l, .int .i64 x.b, .int .i64 x.n] 90).cell (k := 0) rfl
        go_upto_region 6 with fail
        generalize wr.alloc (.cells #[.int .i64 x.l, .int .i64 x.b, .int .i64 x.n] 90) = w2 at *
        go_wp2_with (at_builtin
                     refine app_el T25 [.int .i64 x.l] HO2.out HB2.out (Nat.le_refl _) rfl rfl rfl rfl rfl ?_ ?_ ?_
                     rotate_right
                     intro v1 w1 hown1 hb1 hg1 ho1
                     have HF := Lib.hid (And.intro hown1 hb1)
                     clear hown1 hb1 hg1 ho1)
        case refine_1 => simp [Value.oneCell']
        case refine_2 => omega
        go_roundg (hs.length - (i + 1))
        case measure => omega
        case rel => exact ⟨i + 1, by omega, rfl, by go_num, by rw [HE.out, List.length_append, List.length_singleton, ints_app]; exact HF.out.1, HF.out.2⟩
      · have q1 : (x.b == b) = true := by simpa using c1
        have q2 : (x.n == n) = false := by simpa using c2
        have HE : Hid (heldOn (hs.take (i + 1)) b n = L) := by show _ = _; rw [HS.out, HAT.out, q1, q2]; simp
        clear c1 c2
        go_wp2_with fail
        go_roundg (hs.length - (i + 1))
        case measure => omega
        case rel => exact ⟨i + 1, by omega, rfl, by go_num, by rw [HE.out]; exact own_al HO.out _, HB.out.alloc HB.out.size _⟩
    · have q1 : (x.b == b) = false := by simpa using c1
      have HE : Hid (heldOn (hs.take (i + 1)) b n = L) := by show _ = _; rw [HS.out, HAT.out, q1]; simp
      clear c1
      go_wp2_with fail
      go_roundg (hs.length - (i + 1))
      case measure => omega
      case rel => exact ⟨i + 1, by omega, rfl, by go_num, by rw [HE.out]; exact own_al HO.out _, HB.out.alloc HB.out.size _⟩
end Go.Proofs.Ytaacfjeddoekfaa
