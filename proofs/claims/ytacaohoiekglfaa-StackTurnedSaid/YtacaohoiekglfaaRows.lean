/-
  No cell of these rows narrows 'for every input' (looked for: loops, veiled, ifaces, maps, wideKeys, modest, calm, conditions, laid).
  DERIVED. THE GIVEN ROWS OF THIS SEAT. 10 by the template 'for every input the law returns true; each argument reads behind the call as it read before'; 0 by the template 'total and deterministic' (their statements: YtacaohoiekglfaaTotals.lean).
  GIVEN WITH THE SEED: the statements are not yours to turn. If you find one false, say at which input.
  Laid BY PROGRAM, IN A SANDBOX (cutbox-rows.mjs): the forced cells as the released guide's own fill.sh prints them over the translation f926a3c606440049… (all of the seat's roots in one cut). By AI agents, Wed Nov 11 2026. No macro, syntax, notation, axiom, sorry.
-/
import Derived.Test.YtacaohoiekglfaaChecked
import GoSem.Claim
import GoSem.ClaimJoined
import GoSem.ClaimMapViews
import Derived.JoinedTies
import Derived.KernelRfl
namespace Go.Proofs.Ytacaohoiekglfaa
/- THE CELL 'sum', in the pinned program and in every row, IS THE sha256 OF THE DUMP (.gsa) THAT YtacaohoiekglfaaProg.lean LOADS. Nothing in Lean hashes anything: it is a label: what it is worth is what the hold of that sum in a sandbox is worth. -/
noncomputable def Try.pinned : Pinned := { name := "ytacaohoiekglfaa", sum := "f926a3c60644004934ddeff89230d851eaede089337c9ed46c0520a58b44bb33", checked := Try.checked }
namespace Rows
def none {H : Type} : Left H := { results := [], args := [] }

/-- 'blockworkslaw04.StackReads': WHATEVER THE INPUT: true; the input reads as it did. -/
def stackReadsSpec : ChangeSpec := { name := "stackReads", fn := fun _ => fun
  | [d1, d2, d3] => { results := [.lit (.bool true)], args := [d1, d2, d3] }
  | _ => none }
def stackReadsRow : OpenClaim := { program := "ytacaohoiekglfaa", sum := "f926a3c60644004934ddeff89230d851eaede089337c9ed46c0520a58b44bb33", func := "blockworks/blockworkslaw04.StackReads", spec := "stackReads", unfollowed := true, recurses := true, plainKeys := false, apart := false }
def StackReadsSaid : Prop := stackReadsRow.holds Try.pinned (OpenSpec.ofChange stackReadsSpec)

/-- ITS FALSE NEIGHBOUR: 'it returns false'. Refute it at one input. -/
def stackReadsWrong : ChangeSpec := { name := "stackReads", fn := fun _ => fun
  | [d1, d2, d3] => { results := [.lit (.bool false)], args := [d1, d2, d3] }
  | _ => none }
def StackReadsWrongFalsely : Prop := stackReadsRow.holds Try.pinned (OpenSpec.ofChange stackReadsWrong)

/-- 'blockworkslaw04.StackLooks': WHATEVER THE INPUT: true; the input reads as it did. -/
def stackLooksSpec : ChangeSpec := { name := "stackLooks", fn := fun _ => fun
  | [d1, d2, d3, d4, d5, d6] => { results := [.lit (.bool true)], args := [d1, d2, d3, d4, d5, d6] }
  | _ => none }
def stackLooksRow : OpenClaim := { program := "ytacaohoiekglfaa", sum := "f926a3c60644004934ddeff89230d851eaede089337c9ed46c0520a58b44bb33", func := "blockworks/blockworkslaw04.StackLooks", spec := "stackLooks", unfollowed := true, recurses := true, plainKeys := false, apart := false }
def StackLooksSaid : Prop := stackLooksRow.holds Try.pinned (OpenSpec.ofChange stackLooksSpec)

/-- ITS FALSE NEIGHBOUR: 'it returns false'. Refute it at one input. -/
def stackLooksWrong : ChangeSpec := { name := "stackLooks", fn := fun _ => fun
  | [d1, d2, d3, d4, d5, d6] => { results := [.lit (.bool false)], args := [d1, d2, d3, d4, d5, d6] }
  | _ => none }
def StackLooksWrongFalsely : Prop := stackLooksRow.holds Try.pinned (OpenSpec.ofChange stackLooksWrong)

/-- 'blockworkslaw04.StackTrue': WHATEVER THE INPUT: true; the input reads as it did. -/
def stackTrueSpec : ChangeSpec := { name := "stackTrue", fn := fun _ => fun
  | [d1, d2, d3, d4, d5] => { results := [.lit (.bool true)], args := [d1, d2, d3, d4, d5] }
  | _ => none }
def stackTrueRow : OpenClaim := { program := "ytacaohoiekglfaa", sum := "f926a3c60644004934ddeff89230d851eaede089337c9ed46c0520a58b44bb33", func := "blockworks/blockworkslaw04.StackTrue", spec := "stackTrue", unfollowed := true, recurses := true, plainKeys := false, apart := false }
def StackTrueSaid : Prop := stackTrueRow.holds Try.pinned (OpenSpec.ofChange stackTrueSpec)

/-- ITS FALSE NEIGHBOUR: 'it returns false'. Refute it at one input. -/
def stackTrueWrong : ChangeSpec := { name := "stackTrue", fn := fun _ => fun
  | [d1, d2, d3, d4, d5] => { results := [.lit (.bool false)], args := [d1, d2, d3, d4, d5] }
  | _ => none }
def StackTrueWrongFalsely : Prop := stackTrueRow.holds Try.pinned (OpenSpec.ofChange stackTrueWrong)

/-- 'blockworkslaw04.StackEnds': WHATEVER THE INPUT: true; the input reads as it did. -/
def stackEndsSpec : ChangeSpec := { name := "stackEnds", fn := fun _ => fun
  | [d1, d2, d3, d4] => { results := [.lit (.bool true)], args := [d1, d2, d3, d4] }
  | _ => none }
def stackEndsRow : OpenClaim := { program := "ytacaohoiekglfaa", sum := "f926a3c60644004934ddeff89230d851eaede089337c9ed46c0520a58b44bb33", func := "blockworks/blockworkslaw04.StackEnds", spec := "stackEnds", unfollowed := true, recurses := true, plainKeys := false, apart := false }
def StackEndsSaid : Prop := stackEndsRow.holds Try.pinned (OpenSpec.ofChange stackEndsSpec)

/-- ITS FALSE NEIGHBOUR: 'it returns false'. Refute it at one input. -/
def stackEndsWrong : ChangeSpec := { name := "stackEnds", fn := fun _ => fun
  | [d1, d2, d3, d4] => { results := [.lit (.bool false)], args := [d1, d2, d3, d4] }
  | _ => none }
def StackEndsWrongFalsely : Prop := stackEndsRow.holds Try.pinned (OpenSpec.ofChange stackEndsWrong)

/-- 'blockworkslaw04.StackFewest': WHATEVER THE INPUT: true; the input reads as it did. -/
def stackFewestSpec : ChangeSpec := { name := "stackFewest", fn := fun _ => fun
  | [d1, d2, d3, d4] => { results := [.lit (.bool true)], args := [d1, d2, d3, d4] }
  | _ => none }
def stackFewestRow : OpenClaim := { program := "ytacaohoiekglfaa", sum := "f926a3c60644004934ddeff89230d851eaede089337c9ed46c0520a58b44bb33", func := "blockworks/blockworkslaw04.StackFewest", spec := "stackFewest", unfollowed := true, recurses := true, plainKeys := false, apart := false }
def StackFewestSaid : Prop := stackFewestRow.holds Try.pinned (OpenSpec.ofChange stackFewestSpec)

/-- ITS FALSE NEIGHBOUR: 'it returns false'. Refute it at one input. -/
def stackFewestWrong : ChangeSpec := { name := "stackFewest", fn := fun _ => fun
  | [d1, d2, d3, d4] => { results := [.lit (.bool false)], args := [d1, d2, d3, d4] }
  | _ => none }
def StackFewestWrongFalsely : Prop := stackFewestRow.holds Try.pinned (OpenSpec.ofChange stackFewestWrong)

/-- 'blockworkslaw04.StackCount': WHATEVER THE INPUT: true; the input reads as it did. -/
def stackCountSpec : ChangeSpec := { name := "stackCount", fn := fun _ => fun
  | [d1, d2, d3] => { results := [.lit (.bool true)], args := [d1, d2, d3] }
  | _ => none }
def stackCountRow : OpenClaim := { program := "ytacaohoiekglfaa", sum := "f926a3c60644004934ddeff89230d851eaede089337c9ed46c0520a58b44bb33", func := "blockworks/blockworkslaw04.StackCount", spec := "stackCount", unfollowed := true, recurses := true, plainKeys := false, apart := false }
def StackCountSaid : Prop := stackCountRow.holds Try.pinned (OpenSpec.ofChange stackCountSpec)

/-- ITS FALSE NEIGHBOUR: 'it returns false'. Refute it at one input. -/
def stackCountWrong : ChangeSpec := { name := "stackCount", fn := fun _ => fun
  | [d1, d2, d3] => { results := [.lit (.bool false)], args := [d1, d2, d3] }
  | _ => none }
def StackCountWrongFalsely : Prop := stackCountRow.holds Try.pinned (OpenSpec.ofChange stackCountWrong)

/-- 'blockworkslaw04.StackNear': WHATEVER THE INPUT: true; the input reads as it did. -/
def stackNearSpec : ChangeSpec := { name := "stackNear", fn := fun _ => fun
  | [d1, d2, d3] => { results := [.lit (.bool true)], args := [d1, d2, d3] }
  | _ => none }
def stackNearRow : OpenClaim := { program := "ytacaohoiekglfaa", sum := "f926a3c60644004934ddeff89230d851eaede089337c9ed46c0520a58b44bb33", func := "blockworks/blockworkslaw04.StackNear", spec := "stackNear", unfollowed := true, recurses := true, plainKeys := false, apart := false }
def StackNearSaid : Prop := stackNearRow.holds Try.pinned (OpenSpec.ofChange stackNearSpec)

/-- ITS FALSE NEIGHBOUR: 'it returns false'. Refute it at one input. -/
def stackNearWrong : ChangeSpec := { name := "stackNear", fn := fun _ => fun
  | [d1, d2, d3] => { results := [.lit (.bool false)], args := [d1, d2, d3] }
  | _ => none }
def StackNearWrongFalsely : Prop := stackNearRow.holds Try.pinned (OpenSpec.ofChange stackNearWrong)

/-- 'blockworkslaw04.StackGap': WHATEVER THE INPUT: true; the input reads as it did. -/
def stackGapSpec : ChangeSpec := { name := "stackGap", fn := fun _ => fun
  | [d1, d2, d3, d4, d5] => { results := [.lit (.bool true)], args := [d1, d2, d3, d4, d5] }
  | _ => none }
def stackGapRow : OpenClaim := { program := "ytacaohoiekglfaa", sum := "f926a3c60644004934ddeff89230d851eaede089337c9ed46c0520a58b44bb33", func := "blockworks/blockworkslaw04.StackGap", spec := "stackGap", unfollowed := true, recurses := true, plainKeys := false, apart := false }
def StackGapSaid : Prop := stackGapRow.holds Try.pinned (OpenSpec.ofChange stackGapSpec)

/-- ITS FALSE NEIGHBOUR: 'it returns false'. Refute it at one input. -/
def stackGapWrong : ChangeSpec := { name := "stackGap", fn := fun _ => fun
  | [d1, d2, d3, d4, d5] => { results := [.lit (.bool false)], args := [d1, d2, d3, d4, d5] }
  | _ => none }
def StackGapWrongFalsely : Prop := stackGapRow.holds Try.pinned (OpenSpec.ofChange stackGapWrong)

/-- 'blockworkslaw04.StackMore': WHATEVER THE INPUT: true; the input reads as it did. -/
def stackMoreSpec : ChangeSpec := { name := "stackMore", fn := fun _ => fun
  | [d1, d2, d3, d4, d5, d6, d7] => { results := [.lit (.bool true)], args := [d1, d2, d3, d4, d5, d6, d7] }
  | _ => none }
def stackMoreRow : OpenClaim := { program := "ytacaohoiekglfaa", sum := "f926a3c60644004934ddeff89230d851eaede089337c9ed46c0520a58b44bb33", func := "blockworks/blockworkslaw04.StackMore", spec := "stackMore", unfollowed := true, recurses := true, plainKeys := false, apart := false }
def StackMoreSaid : Prop := stackMoreRow.holds Try.pinned (OpenSpec.ofChange stackMoreSpec)

/-- ITS FALSE NEIGHBOUR: 'it returns false'. Refute it at one input. -/
def stackMoreWrong : ChangeSpec := { name := "stackMore", fn := fun _ => fun
  | [d1, d2, d3, d4, d5, d6, d7] => { results := [.lit (.bool false)], args := [d1, d2, d3, d4, d5, d6, d7] }
  | _ => none }
def StackMoreWrongFalsely : Prop := stackMoreRow.holds Try.pinned (OpenSpec.ofChange stackMoreWrong)

/-- 'blockworkslaw04.StackTurned': WHATEVER THE INPUT: true; the input reads as it did. -/
def stackTurnedSpec : ChangeSpec := { name := "stackTurned", fn := fun _ => fun
  | [d1, d2, d3, d4] => { results := [.lit (.bool true)], args := [d1, d2, d3, d4] }
  | _ => none }
def stackTurnedRow : OpenClaim := { program := "ytacaohoiekglfaa", sum := "f926a3c60644004934ddeff89230d851eaede089337c9ed46c0520a58b44bb33", func := "blockworks/blockworkslaw04.StackTurned", spec := "stackTurned", unfollowed := true, recurses := true, plainKeys := false, apart := false }
def StackTurnedSaid : Prop := stackTurnedRow.holds Try.pinned (OpenSpec.ofChange stackTurnedSpec)

/-- ITS FALSE NEIGHBOUR: 'it returns false'. Refute it at one input. -/
def stackTurnedWrong : ChangeSpec := { name := "stackTurned", fn := fun _ => fun
  | [d1, d2, d3, d4] => { results := [.lit (.bool false)], args := [d1, d2, d3, d4] }
  | _ => none }
def StackTurnedWrongFalsely : Prop := stackTurnedRow.holds Try.pinned (OpenSpec.ofChange stackTurnedWrong)

/- THE SECOND FORM. 'bulk': how many values and letters a reading holds, each counted each time it is reached (what is shared counts as often as it is met; a slice's spare places count too). A statement '..UptoSaid' is the law's where the arguments, and the package variables that the reading takes, are together of bulk at most 1048576: NARROWER than '..Said'. Prove '..Said' where nothing that the law and all that it calls make is longer than what came in: it says more and counts as full. Else prove '..UptoSaid'. A law counts once. -/
mutual
def uptoBulk {H : Type} : DataW H → Nat
  | .lit (.string bytes) => bytes.length + 1
  | .lit _ => 1
  | .nil => 1
  | .ptr d => uptoBulk d + 1
  | .slice elems spare => uptoBulkAll elems + uptoBulkAll spare + 1
  | .agg parts => uptoBulkAll parts + 1
  | .iface _ d => uptoBulk d + 1
  | .map entries => uptoBulkEntries entries + 1
  | .held _ => 1
def uptoBulkAll {H : Type} : List (DataW H) → Nat
  | [] => 0
  | d :: r => uptoBulk d + uptoBulkAll r
def uptoBulkEntries {H : Type} : List (Lit × DataW H) → Nat
  | [] => 0
  | x :: r => uptoBulkEntry x + uptoBulkEntries r
def uptoBulkEntry {H : Type} : Lit × DataW H → Nat
  | (.string bytes, d) => bytes.length + uptoBulk d + 1
  | (_, d) => uptoBulk d + 1
 end
def uptoSmall : (H : Type) → List (DataW H) → Bool := fun _ ds => decide (uptoBulkAll ds ≤ 1048576)
def OpenSpec.upto (s : _root_.Go.ChangeSpec) : _root_.Go.OpenSpec := { _root_.Go.OpenSpec.ofChange s with cond := some uptoSmall }

/-- 'blockworkslaw04.StackReads', WHERE WHAT IT READS IS OF BULK AT MOST 1048576: true; the input reads as it did. -/
def stackReadsUptoRow : OpenClaim := { program := "ytacaohoiekglfaa", sum := "f926a3c60644004934ddeff89230d851eaede089337c9ed46c0520a58b44bb33", func := "blockworks/blockworkslaw04.StackReads", spec := "stackReads", unfollowed := true, recurses := true, plainKeys := false, apart := false, narrowed := true }
def StackReadsUptoSaid : Prop := stackReadsUptoRow.holds Try.pinned (OpenSpec.upto stackReadsSpec)

/-- 'blockworkslaw04.StackLooks', WHERE WHAT IT READS IS OF BULK AT MOST 1048576: true; the input reads as it did. -/
def stackLooksUptoRow : OpenClaim := { program := "ytacaohoiekglfaa", sum := "f926a3c60644004934ddeff89230d851eaede089337c9ed46c0520a58b44bb33", func := "blockworks/blockworkslaw04.StackLooks", spec := "stackLooks", unfollowed := true, recurses := true, plainKeys := false, apart := false, narrowed := true }
def StackLooksUptoSaid : Prop := stackLooksUptoRow.holds Try.pinned (OpenSpec.upto stackLooksSpec)

/-- 'blockworkslaw04.StackTrue', WHERE WHAT IT READS IS OF BULK AT MOST 1048576: true; the input reads as it did. -/
def stackTrueUptoRow : OpenClaim := { program := "ytacaohoiekglfaa", sum := "f926a3c60644004934ddeff89230d851eaede089337c9ed46c0520a58b44bb33", func := "blockworks/blockworkslaw04.StackTrue", spec := "stackTrue", unfollowed := true, recurses := true, plainKeys := false, apart := false, narrowed := true }
def StackTrueUptoSaid : Prop := stackTrueUptoRow.holds Try.pinned (OpenSpec.upto stackTrueSpec)

/-- 'blockworkslaw04.StackEnds', WHERE WHAT IT READS IS OF BULK AT MOST 1048576: true; the input reads as it did. -/
def stackEndsUptoRow : OpenClaim := { program := "ytacaohoiekglfaa", sum := "f926a3c60644004934ddeff89230d851eaede089337c9ed46c0520a58b44bb33", func := "blockworks/blockworkslaw04.StackEnds", spec := "stackEnds", unfollowed := true, recurses := true, plainKeys := false, apart := false, narrowed := true }
def StackEndsUptoSaid : Prop := stackEndsUptoRow.holds Try.pinned (OpenSpec.upto stackEndsSpec)

/-- 'blockworkslaw04.StackFewest', WHERE WHAT IT READS IS OF BULK AT MOST 1048576: true; the input reads as it did. -/
def stackFewestUptoRow : OpenClaim := { program := "ytacaohoiekglfaa", sum := "f926a3c60644004934ddeff89230d851eaede089337c9ed46c0520a58b44bb33", func := "blockworks/blockworkslaw04.StackFewest", spec := "stackFewest", unfollowed := true, recurses := true, plainKeys := false, apart := false, narrowed := true }
def StackFewestUptoSaid : Prop := stackFewestUptoRow.holds Try.pinned (OpenSpec.upto stackFewestSpec)

/-- 'blockworkslaw04.StackCount', WHERE WHAT IT READS IS OF BULK AT MOST 1048576: true; the input reads as it did. -/
def stackCountUptoRow : OpenClaim := { program := "ytacaohoiekglfaa", sum := "f926a3c60644004934ddeff89230d851eaede089337c9ed46c0520a58b44bb33", func := "blockworks/blockworkslaw04.StackCount", spec := "stackCount", unfollowed := true, recurses := true, plainKeys := false, apart := false, narrowed := true }
def StackCountUptoSaid : Prop := stackCountUptoRow.holds Try.pinned (OpenSpec.upto stackCountSpec)

/-- 'blockworkslaw04.StackNear', WHERE WHAT IT READS IS OF BULK AT MOST 1048576: true; the input reads as it did. -/
def stackNearUptoRow : OpenClaim := { program := "ytacaohoiekglfaa", sum := "f926a3c60644004934ddeff89230d851eaede089337c9ed46c0520a58b44bb33", func := "blockworks/blockworkslaw04.StackNear", spec := "stackNear", unfollowed := true, recurses := true, plainKeys := false, apart := false, narrowed := true }
def StackNearUptoSaid : Prop := stackNearUptoRow.holds Try.pinned (OpenSpec.upto stackNearSpec)

/-- 'blockworkslaw04.StackGap', WHERE WHAT IT READS IS OF BULK AT MOST 1048576: true; the input reads as it did. -/
def stackGapUptoRow : OpenClaim := { program := "ytacaohoiekglfaa", sum := "f926a3c60644004934ddeff89230d851eaede089337c9ed46c0520a58b44bb33", func := "blockworks/blockworkslaw04.StackGap", spec := "stackGap", unfollowed := true, recurses := true, plainKeys := false, apart := false, narrowed := true }
def StackGapUptoSaid : Prop := stackGapUptoRow.holds Try.pinned (OpenSpec.upto stackGapSpec)

/-- 'blockworkslaw04.StackMore', WHERE WHAT IT READS IS OF BULK AT MOST 1048576: true; the input reads as it did. -/
def stackMoreUptoRow : OpenClaim := { program := "ytacaohoiekglfaa", sum := "f926a3c60644004934ddeff89230d851eaede089337c9ed46c0520a58b44bb33", func := "blockworks/blockworkslaw04.StackMore", spec := "stackMore", unfollowed := true, recurses := true, plainKeys := false, apart := false, narrowed := true }
def StackMoreUptoSaid : Prop := stackMoreUptoRow.holds Try.pinned (OpenSpec.upto stackMoreSpec)

/-- 'blockworkslaw04.StackTurned', WHERE WHAT IT READS IS OF BULK AT MOST 1048576: true; the input reads as it did. -/
def stackTurnedUptoRow : OpenClaim := { program := "ytacaohoiekglfaa", sum := "f926a3c60644004934ddeff89230d851eaede089337c9ed46c0520a58b44bb33", func := "blockworks/blockworkslaw04.StackTurned", spec := "stackTurned", unfollowed := true, recurses := true, plainKeys := false, apart := false, narrowed := true }
def StackTurnedUptoSaid : Prop := stackTurnedUptoRow.holds Try.pinned (OpenSpec.upto stackTurnedSpec)

end Rows
end Go.Proofs.Ytacaohoiekglfaa
