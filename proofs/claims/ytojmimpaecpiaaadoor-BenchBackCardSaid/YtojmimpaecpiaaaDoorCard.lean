/- BenchBack returns true whatever the input, and the arguments read as before; what it lists is tied to the program's text. -/
import Derived.Test.YtojmimpaecpiaaaDoorProofs
import Derived.Test.YtojmimpaecpiaaaDoorTie
import Derived.Test.YtojmimpaecpiaaaDoorCards
import Derived.SevenTiedAt
namespace Go.Proofs.YtojmimpaecpiaaaDoor
open Go

theorem benchBack_card : Rows.BenchBackCardSaid :=
  Claim7.holds_tied_plain_at .later [] [.data, .data, .data, .data, .sentinel, .sentinel, .pinned] true (true, "1a02aa23d477f3f7e17351c74aa3b712c86eefdd1c2c4b11e9f4d3f82447dccb") true
    benchBack_holds (fun _ h => by cases h) (by kernel_rfl) (fun _ h => by cases h) benchBack_row_tie rfl ⟨rfl, rfl⟩ (by kernel_rfl) rfl
    (fun f fn hf hfn => by
      obtain rfl : f = 3 := Option.some.inj ((show Tryd.prog.funcNamed "exchequer/exchequerlaw32.BenchBack" = some 3 by kernel_rfl).symm.trans hf) |>.symm
      obtain rfl : fn = Tryd.f3 := (Option.some.inj (Tryd.func3.symm.trans hfn)).symm
      exact ⟨by kernel_rfl, fun j t ht => by
        rw [Tryd.params3] at ht
        have hm : t ∈ [25, 9] := by simpa using Array.mem_of_getElem? ht
        have hall : ([25, 9].all fun u => !Tryd.prog.wantsStandIn u) = true := by kernel_rfl
        exact (show Tryd.prog.wantsStandIn t = false by simpa using List.all_eq_true.1 hall t hm)⟩)
    (by kernel_rfl)
#print axioms benchBack_card
end Go.Proofs.YtojmimpaecpiaaaDoor
