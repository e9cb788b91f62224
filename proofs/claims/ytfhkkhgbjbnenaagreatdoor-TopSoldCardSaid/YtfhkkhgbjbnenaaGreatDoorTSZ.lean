/- TopSold answers true for every lot, all worn blocks, all numbers and every point, and its arguments read as before; its one condition, which this card ties to the program's text: the package variable blockworks/wear.none reads as that text lays it when the call begins. -/
import Derived.Test.YtfhkkhgbjbnenaaGreatDoorTSK
import Derived.Test.YtfhkkhgbjbnenaaGreatDoorTie
import Derived.Test.YtfhkkhgbjbnenaaGreatDoorCards
import Derived.SevenTiedAt

set_option linter.unusedVariables false
set_option linter.unusedSimpArgs false
set_option linter.unusedSectionVars false
set_option maxRecDepth 100000
set_option maxHeartbeats 4000000

namespace Go.Proofs.YtfhkkhgbjbnenaaGreatDoor
open Go Go.Proofs
theorem topSold_proved:Rows.TopSoldCardSaid :=
 Claim7.holds_tied_plain_at .later [] [.data] true (true, "3cf04ba58eb8a04acbaf4102454f7498700056ccd18db5982e70056607ba5e3d") true
  S2 (λ_ h=>by cases h) (by kernel_rfl) (λ_ h=>by cases h) topSold_row_tie rfl ⟨rfl,rfl⟩ (by kernel_rfl) rfl
  (λf fn hf iR=>by
   obtain rfl : f = 3 := Option.some.inj ((show Tryz.prog.funcNamed "blockworks/blockworkstop.TopSold" = some 3 by kernel_rfl).symm.trans hf) |>.symm
   obtain rfl:fn=Tryz.f3:=(Option.some.inj (Tryz.func3.symm.trans iR)).symm
   exact⟨by kernel_rfl,λj t ht=>by
    rw[show Tryz.f3.params=#[27,28,29,5] by kernel_rfl] at ht
    have hm:t∈[27,28,29,5]:=by simpa using Array.mem_of_getElem? ht
    have cq:([27,28,29,5].all λu=>!Tryz.prog.wantsStandIn u)=true:=by kernel_rfl
    exact(show Tryz.prog.wantsStandIn t=false by simpa using List.all_eq_true.1 cq t hm)⟩)
  (by kernel_rfl)
#print axioms topSold_proved
end Go.Proofs.YtfhkkhgbjbnenaaGreatDoor
