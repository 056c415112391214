/- Proved: tapestrytop.TopTwice returns true for every chart and every two ints, and what it was given reads as it did. Conditions: none on the arguments; the two listed variables (the tables of unicode/utf8: acceptRanges and first) read, when the call begins, as the program's text lays them, to which the card ties them. -/
import Derived.Test.YtmmakljmikdooaaDoorTwProofTwice
import Derived.Test.YtmmakljmikdooaaDoorTie
import Derived.Test.YtmmakljmikdooaaDoorCards
import Derived.SevenTiedAt
namespace Go.Proofs.YtmmakljmikdooaaDoor
open Go
theorem topTwice_card : Rows.TopTwiceCardSaid :=
  Claim7.holds_tied_plain_at .later [] [.data, .pinned] true (true, "e2255e853dc43d9e86c58455b731e696a0cf23c999761d359dd28c041ce77eea") false
    topTwice_holds (fun _ h => by cases h) (by kernel_rfl) (fun _ h => by cases h) topTwice_row_tie rfl ⟨rfl, rfl⟩ (by kernel_rfl) rfl
    (fun f fn hf hfn => by
      obtain rfl : f = 3 := Option.some.inj ((show Tryd.prog.funcNamed Rows.topTwiceRow.func = some 3 by kernel_rfl).symm.trans hf) |>.symm
      obtain rfl : fn = Tryd.f3 := (Option.some.inj (Tryd.func3.symm.trans hfn)).symm
      exact ⟨by kernel_rfl, fun j t ht => by
        rw [Tryd.params3] at ht
        have hm : t ∈ [24, 3, 3] := by simpa using Array.mem_of_getElem? ht
        have hall : ([24, 3, 3].all fun u => !Tryd.prog.wantsStandIn u) = true := by kernel_rfl
        exact (show Tryd.prog.wantsStandIn t = false by simpa using List.all_eq_true.1 hall t hm)⟩)
    (by kernel_rfl)
#print axioms topTwice_card
end Go.Proofs.YtmmakljmikdooaaDoor
