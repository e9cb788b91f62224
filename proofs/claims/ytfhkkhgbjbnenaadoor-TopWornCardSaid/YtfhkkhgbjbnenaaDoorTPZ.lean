/- TopWorn answers true for all worn blocks, film, numbers, want and width, and its arguments read as before; its one condition, which this card ties to the program's text: the package variable blockworks/wear.none reads as that text lays it when the call begins. -/
import Derived.Test.YtfhkkhgbjbnenaaDoorTPF
import Derived.Test.YtfhkkhgbjbnenaaDoorTie
import Derived.Test.YtfhkkhgbjbnenaaDoorCards
import Derived.SevenTiedAt

section
set_option linter.unusedVariables false
set_option linter.unusedSimpArgs false
set_option linter.unusedSectionVars false
/- TopWorn: the tied card. -/
set_option maxRecDepth 100000
namespace Go.Proofs.YtfhkkhgbjbnenaaDoor
open Go Go.Proofs
theorem topWorn_proved : Rows.TopWornCardSaid :=
  Claim7.holds_tied_plain_at .later [] [.data] true (true, "56ad435001207707b1bb40ae3cd87df6669f88fb6879197731d7418593e18926") true
    topWorn_row (fun _ h => by cases h) (by kernel_rfl) (fun _ h => by cases h) topWorn_row_tie rfl ⟨rfl, rfl⟩ (by kernel_rfl) rfl
    (fun f fn hf hfn => by
      obtain rfl : f = 3 := Option.some.inj ((show Tryd.prog.funcNamed "blockworks/blockworkstop.TopWorn" = some 3 by kernel_rfl).symm.trans hf) |>.symm
      obtain rfl : fn = Tryd.f3 := (Option.some.inj (Tryd.func3.symm.trans hfn)).symm
      exact ⟨by kernel_rfl, fun j t ht => by
        rw [show Tryd.f3.params = #[22, 24, 25, 26, 5] by kernel_rfl] at ht
        have hm : t ∈ [22, 24, 25, 26, 5] := by simpa using Array.mem_of_getElem? ht
        have hall : ([22, 24, 25, 26, 5].all fun u => !Tryd.prog.wantsStandIn u) = true := by kernel_rfl
        exact (show Tryd.prog.wantsStandIn t = false by simpa using List.all_eq_true.1 hall t hm)⟩)
    (by kernel_rfl)
#print axioms topWorn_proved
end Go.Proofs.YtfhkkhgbjbnenaaDoor
end
