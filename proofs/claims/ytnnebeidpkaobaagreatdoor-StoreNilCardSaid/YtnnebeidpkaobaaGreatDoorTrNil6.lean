/- StoreNil: the card. A store that there is not, or that Open did not make, has nothing and changes nothing: for every change. Condition: two of Go's own tables begin as the program's text lays them (the card ties them). -/
import Derived.Test.YtnnebeidpkaobaaGreatDoorTrNil5
import Derived.Test.YtnnebeidpkaobaaGreatDoorTie
import Derived.Test.YtnnebeidpkaobaaGreatDoorCards
import Derived.WalkKit
import Derived.ProofKit
import Derived.Lay
import Derived.LaidOnce
import Derived.SevenTiedAt
import Derived.Carry
import Derived.Test.YtnnebeidpkaobaaGreatDoorRows
set_option linter.unusedVariables false
set_option linter.unusedSimpArgs false
set_option linter.unusedSectionVars false
namespace Go.Proofs.YtnnebeidpkaobaaGreatDoor
open Go Go.RowKit Go.Lib Go.Ev
open Go.ChangeShapes Go.WideShapes Go.ChangeAt
set_option maxRecDepth 100000
theorem storeNil_holds : Rows.StoreNilCardSaid :=
  Claim7.holds_tied_plain_at .later [] [.data, .pinned] true (true, "d9568683c367b6aab6fa4aed12fdff23bc5a96f2c7f3678653bb230d8274439a") false nil_row (fun _ h => by cases h) (by kernel_rfl) (fun _ h => by cases h) storeNil_row_tie rfl ⟨rfl, rfl⟩ (by kernel_rfl) rfl
    (fun f fn hf hfn => by
      obtain rfl : f = 4 := Option.some.inj ((show Tryz.prog.funcNamed "newsreel/newsreellaw16.StoreNil" = some 4 by kernel_rfl).symm.trans hf) |>.symm
      obtain rfl : fn = Tryz.f4 := (Option.some.inj (Tryz.func4.symm.trans hfn)).symm
      exact ⟨by kernel_rfl, fun j t ht => by
        rw [Tryz.params4] at ht
        have hm : t ∈ [51] := by simpa using Array.mem_of_getElem? ht
        have hall : ([51].all fun u => !Tryz.prog.wantsStandIn u) = true := by kernel_rfl
        exact (show Tryz.prog.wantsStandIn t = false by simpa using List.all_eq_true.1 hall t hm)⟩)
    (by kernel_rfl)
#print axioms storeNil_holds
end Go.Proofs.YtnnebeidpkaobaaGreatDoor
