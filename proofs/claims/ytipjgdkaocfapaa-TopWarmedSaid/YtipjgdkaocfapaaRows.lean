/-
  No cell of these rows narrows 'for every input' (looked for: loops, veiled, ifaces, maps, wideKeys, modest, calm, conditions, laid).
  DERIVED. THE GIVEN ROWS OF THIS SEAT. 11 by the template 'for every input the law returns true; each argument reads behind the call as it read before'; 0 by the template 'total and deterministic' (their statements: YtipjgdkaocfapaaTotals.lean).
  GIVEN WITH THE SEED: the statements are not yours to turn. If you find one false, say at which input.
  Laid BY PROGRAM, IN A SANDBOX (cutbox-rows.mjs): the forced cells as the released guide's own fill.sh prints them over the translation 265126d20870a98a… (all of the seat's roots in one cut). By AI agents, Wed Nov 11 2026. No macro, syntax, notation, axiom, sorry.
-/
import Derived.Test.YtipjgdkaocfapaaChecked
import GoSem.Claim
import GoSem.ClaimJoined
import GoSem.ClaimMapViews
import Derived.JoinedTies
import Derived.KernelRfl
namespace Go.Proofs.Ytipjgdkaocfapaa
/- THE CELL 'sum', in the pinned program and in every row, IS THE sha256 OF THE DUMP (.gsa) THAT YtipjgdkaocfapaaProg.lean LOADS. Nothing in Lean hashes anything: it is a label: what it is worth is what the hold of that sum in a sandbox is worth. -/
noncomputable def Try.pinned : Pinned := { name := "ytipjgdkaocfapaa", sum := "265126d20870a98ab28223a16625dccf924bb9d4596680c5f3524519f276af5d", checked := Try.checked }
namespace Rows
def none {H : Type} : Left H := { results := [], args := [] }

/-- 'blockworkstop.TopWarmed': WHATEVER THE INPUT: true; the input reads as it did. -/
def topWarmedSpec : ChangeSpec := { name := "topWarmed", fn := fun _ => fun
  | [d1, d2, d3, d4, d5, d6, d7] => { results := [.lit (.bool true)], args := [d1, d2, d3, d4, d5, d6, d7] }
  | _ => none }
def topWarmedRow : OpenClaim := { program := "ytipjgdkaocfapaa", sum := "265126d20870a98ab28223a16625dccf924bb9d4596680c5f3524519f276af5d", func := "blockworks/blockworkstop.TopWarmed", spec := "topWarmed", unfollowed := true, recurses := true, plainKeys := false, apart := false }
def TopWarmedSaid : Prop := topWarmedRow.holds Try.pinned (OpenSpec.ofChange topWarmedSpec)

/-- ITS FALSE NEIGHBOUR: 'it returns false'. Refute it at one input. -/
def topWarmedWrong : ChangeSpec := { name := "topWarmed", fn := fun _ => fun
  | [d1, d2, d3, d4, d5, d6, d7] => { results := [.lit (.bool false)], args := [d1, d2, d3, d4, d5, d6, d7] }
  | _ => none }
def TopWarmedWrongFalsely : Prop := topWarmedRow.holds Try.pinned (OpenSpec.ofChange topWarmedWrong)

/-- 'blockworkslaw02.WarmReads': WHATEVER THE INPUT: true; the input reads as it did. -/
def warmReadsSpec : ChangeSpec := { name := "warmReads", fn := fun _ => fun
  | [d1, d2, d3] => { results := [.lit (.bool true)], args := [d1, d2, d3] }
  | _ => none }
def warmReadsRow : OpenClaim := { program := "ytipjgdkaocfapaa", sum := "265126d20870a98ab28223a16625dccf924bb9d4596680c5f3524519f276af5d", func := "blockworks/blockworkslaw02.WarmReads", spec := "warmReads", unfollowed := true, recurses := true, plainKeys := false, apart := false }
def WarmReadsSaid : Prop := warmReadsRow.holds Try.pinned (OpenSpec.ofChange warmReadsSpec)

/-- ITS FALSE NEIGHBOUR: 'it returns false'. Refute it at one input. -/
def warmReadsWrong : ChangeSpec := { name := "warmReads", fn := fun _ => fun
  | [d1, d2, d3] => { results := [.lit (.bool false)], args := [d1, d2, d3] }
  | _ => none }
def WarmReadsWrongFalsely : Prop := warmReadsRow.holds Try.pinned (OpenSpec.ofChange warmReadsWrong)

/-- 'blockworkslaw02.WarmLooks': WHATEVER THE INPUT: true; the input reads as it did. -/
def warmLooksSpec : ChangeSpec := { name := "warmLooks", fn := fun _ => fun
  | [d1, d2, d3] => { results := [.lit (.bool true)], args := [d1, d2, d3] }
  | _ => none }
def warmLooksRow : OpenClaim := { program := "ytipjgdkaocfapaa", sum := "265126d20870a98ab28223a16625dccf924bb9d4596680c5f3524519f276af5d", func := "blockworks/blockworkslaw02.WarmLooks", spec := "warmLooks", unfollowed := true, recurses := true, plainKeys := false, apart := false }
def WarmLooksSaid : Prop := warmLooksRow.holds Try.pinned (OpenSpec.ofChange warmLooksSpec)

/-- ITS FALSE NEIGHBOUR: 'it returns false'. Refute it at one input. -/
def warmLooksWrong : ChangeSpec := { name := "warmLooks", fn := fun _ => fun
  | [d1, d2, d3] => { results := [.lit (.bool false)], args := [d1, d2, d3] }
  | _ => none }
def WarmLooksWrongFalsely : Prop := warmLooksRow.holds Try.pinned (OpenSpec.ofChange warmLooksWrong)

/-- 'blockworkslaw02.WarmProves': WHATEVER THE INPUT: true; the input reads as it did. -/
def warmProvesSpec : ChangeSpec := { name := "warmProves", fn := fun _ => fun
  | [d] => { results := [.lit (.bool true)], args := [d] }
  | _ => none }
def warmProvesRow : OpenClaim := { program := "ytipjgdkaocfapaa", sum := "265126d20870a98ab28223a16625dccf924bb9d4596680c5f3524519f276af5d", func := "blockworks/blockworkslaw02.WarmProves", spec := "warmProves", unfollowed := true, recurses := true, plainKeys := false, apart := false }
def WarmProvesSaid : Prop := warmProvesRow.holds Try.pinned (OpenSpec.ofChange warmProvesSpec)

/-- ITS FALSE NEIGHBOUR: 'it returns false'. Refute it at one input. -/
def warmProvesWrong : ChangeSpec := { name := "warmProves", fn := fun _ => fun
  | [d] => { results := [.lit (.bool false)], args := [d] }
  | _ => none }
def WarmProvesWrongFalsely : Prop := warmProvesRow.holds Try.pinned (OpenSpec.ofChange warmProvesWrong)

/-- 'blockworkslaw02.WarmTrue': WHATEVER THE INPUT: true; the input reads as it did. -/
def warmTrueSpec : ChangeSpec := { name := "warmTrue", fn := fun _ => fun
  | [d1, d2, d3, d4] => { results := [.lit (.bool true)], args := [d1, d2, d3, d4] }
  | _ => none }
def warmTrueRow : OpenClaim := { program := "ytipjgdkaocfapaa", sum := "265126d20870a98ab28223a16625dccf924bb9d4596680c5f3524519f276af5d", func := "blockworks/blockworkslaw02.WarmTrue", spec := "warmTrue", unfollowed := true, recurses := true, plainKeys := false, apart := false }
def WarmTrueSaid : Prop := warmTrueRow.holds Try.pinned (OpenSpec.ofChange warmTrueSpec)

/-- ITS FALSE NEIGHBOUR: 'it returns false'. Refute it at one input. -/
def warmTrueWrong : ChangeSpec := { name := "warmTrue", fn := fun _ => fun
  | [d1, d2, d3, d4] => { results := [.lit (.bool false)], args := [d1, d2, d3, d4] }
  | _ => none }
def WarmTrueWrongFalsely : Prop := warmTrueRow.holds Try.pinned (OpenSpec.ofChange warmTrueWrong)

/-- 'blockworkslaw02.WarmPairs': WHATEVER THE INPUT: true; the input reads as it did. -/
def warmPairsSpec : ChangeSpec := { name := "warmPairs", fn := fun _ => fun
  | [d1, d2] => { results := [.lit (.bool true)], args := [d1, d2] }
  | _ => none }
def warmPairsRow : OpenClaim := { program := "ytipjgdkaocfapaa", sum := "265126d20870a98ab28223a16625dccf924bb9d4596680c5f3524519f276af5d", func := "blockworks/blockworkslaw02.WarmPairs", spec := "warmPairs", unfollowed := true, recurses := true, plainKeys := false, apart := false }
def WarmPairsSaid : Prop := warmPairsRow.holds Try.pinned (OpenSpec.ofChange warmPairsSpec)

/-- ITS FALSE NEIGHBOUR: 'it returns false'. Refute it at one input. -/
def warmPairsWrong : ChangeSpec := { name := "warmPairs", fn := fun _ => fun
  | [d1, d2] => { results := [.lit (.bool false)], args := [d1, d2] }
  | _ => none }
def WarmPairsWrongFalsely : Prop := warmPairsRow.holds Try.pinned (OpenSpec.ofChange warmPairsWrong)

/-- 'blockworkslaw02.WarmShows': WHATEVER THE INPUT: true; the input reads as it did. -/
def warmShowsSpec : ChangeSpec := { name := "warmShows", fn := fun _ => fun
  | [d1, d2, d3] => { results := [.lit (.bool true)], args := [d1, d2, d3] }
  | _ => none }
def warmShowsRow : OpenClaim := { program := "ytipjgdkaocfapaa", sum := "265126d20870a98ab28223a16625dccf924bb9d4596680c5f3524519f276af5d", func := "blockworks/blockworkslaw02.WarmShows", spec := "warmShows", unfollowed := true, recurses := true, plainKeys := false, apart := false }
def WarmShowsSaid : Prop := warmShowsRow.holds Try.pinned (OpenSpec.ofChange warmShowsSpec)

/-- ITS FALSE NEIGHBOUR: 'it returns false'. Refute it at one input. -/
def warmShowsWrong : ChangeSpec := { name := "warmShows", fn := fun _ => fun
  | [d1, d2, d3] => { results := [.lit (.bool false)], args := [d1, d2, d3] }
  | _ => none }
def WarmShowsWrongFalsely : Prop := warmShowsRow.holds Try.pinned (OpenSpec.ofChange warmShowsWrong)

/-- 'blockworkslaw02.WarmRoom': WHATEVER THE INPUT: true; the input reads as it did. -/
def warmRoomSpec : ChangeSpec := { name := "warmRoom", fn := fun _ => fun
  | [d1, d2, d3] => { results := [.lit (.bool true)], args := [d1, d2, d3] }
  | _ => none }
def warmRoomRow : OpenClaim := { program := "ytipjgdkaocfapaa", sum := "265126d20870a98ab28223a16625dccf924bb9d4596680c5f3524519f276af5d", func := "blockworks/blockworkslaw02.WarmRoom", spec := "warmRoom", unfollowed := true, recurses := true, plainKeys := false, apart := false }
def WarmRoomSaid : Prop := warmRoomRow.holds Try.pinned (OpenSpec.ofChange warmRoomSpec)

/-- ITS FALSE NEIGHBOUR: 'it returns false'. Refute it at one input. -/
def warmRoomWrong : ChangeSpec := { name := "warmRoom", fn := fun _ => fun
  | [d1, d2, d3] => { results := [.lit (.bool false)], args := [d1, d2, d3] }
  | _ => none }
def WarmRoomWrongFalsely : Prop := warmRoomRow.holds Try.pinned (OpenSpec.ofChange warmRoomWrong)

/-- 'blockworkslaw02.WarmNext': WHATEVER THE INPUT: true; the input reads as it did. -/
def warmNextSpec : ChangeSpec := { name := "warmNext", fn := fun _ => fun
  | [d1, d2, d3] => { results := [.lit (.bool true)], args := [d1, d2, d3] }
  | _ => none }
def warmNextRow : OpenClaim := { program := "ytipjgdkaocfapaa", sum := "265126d20870a98ab28223a16625dccf924bb9d4596680c5f3524519f276af5d", func := "blockworks/blockworkslaw02.WarmNext", spec := "warmNext", unfollowed := true, recurses := true, plainKeys := false, apart := false }
def WarmNextSaid : Prop := warmNextRow.holds Try.pinned (OpenSpec.ofChange warmNextSpec)

/-- ITS FALSE NEIGHBOUR: 'it returns false'. Refute it at one input. -/
def warmNextWrong : ChangeSpec := { name := "warmNext", fn := fun _ => fun
  | [d1, d2, d3] => { results := [.lit (.bool false)], args := [d1, d2, d3] }
  | _ => none }
def WarmNextWrongFalsely : Prop := warmNextRow.holds Try.pinned (OpenSpec.ofChange warmNextWrong)

/-- 'blockworkslaw02.WarmClash': WHATEVER THE INPUT: true; the input reads as it did. -/
def warmClashSpec : ChangeSpec := { name := "warmClash", fn := fun _ => fun
  | [d1, d2] => { results := [.lit (.bool true)], args := [d1, d2] }
  | _ => none }
def warmClashRow : OpenClaim := { program := "ytipjgdkaocfapaa", sum := "265126d20870a98ab28223a16625dccf924bb9d4596680c5f3524519f276af5d", func := "blockworks/blockworkslaw02.WarmClash", spec := "warmClash", unfollowed := true, recurses := true, plainKeys := false, apart := false }
def WarmClashSaid : Prop := warmClashRow.holds Try.pinned (OpenSpec.ofChange warmClashSpec)

/-- ITS FALSE NEIGHBOUR: 'it returns false'. Refute it at one input. -/
def warmClashWrong : ChangeSpec := { name := "warmClash", fn := fun _ => fun
  | [d1, d2] => { results := [.lit (.bool false)], args := [d1, d2] }
  | _ => none }
def WarmClashWrongFalsely : Prop := warmClashRow.holds Try.pinned (OpenSpec.ofChange warmClashWrong)

/-- 'blockworkslaw02.WarmMore': WHATEVER THE INPUT: true; the input reads as it did. -/
def warmMoreSpec : ChangeSpec := { name := "warmMore", fn := fun _ => fun
  | [d1, d2, d3, d4, d5, d6] => { results := [.lit (.bool true)], args := [d1, d2, d3, d4, d5, d6] }
  | _ => none }
def warmMoreRow : OpenClaim := { program := "ytipjgdkaocfapaa", sum := "265126d20870a98ab28223a16625dccf924bb9d4596680c5f3524519f276af5d", func := "blockworks/blockworkslaw02.WarmMore", spec := "warmMore", unfollowed := true, recurses := true, plainKeys := false, apart := false }
def WarmMoreSaid : Prop := warmMoreRow.holds Try.pinned (OpenSpec.ofChange warmMoreSpec)

/-- ITS FALSE NEIGHBOUR: 'it returns false'. Refute it at one input. -/
def warmMoreWrong : ChangeSpec := { name := "warmMore", fn := fun _ => fun
  | [d1, d2, d3, d4, d5, d6] => { results := [.lit (.bool false)], args := [d1, d2, d3, d4, d5, d6] }
  | _ => none }
def WarmMoreWrongFalsely : Prop := warmMoreRow.holds Try.pinned (OpenSpec.ofChange warmMoreWrong)

/- THE SECOND FORM. 'bulk': how many values and letters a reading holds, each counted each time it is reached (what is shared counts as often as it is met; a slice's spare places count too). A statement '..UptoSaid' is the law's where the arguments, and the package variables that the reading takes, are together of bulk at most 1048576: NARROWER than '..Said'. Prove '..Said' where nothing that the law and all that it calls make is longer than what came in: it says more and counts as full. Else prove '..UptoSaid'. A law counts once. -/
mutual
def uptoBulk {H : Type} : DataW H → Nat
  | .lit (.string bytes) => bytes.length + 1
  | .lit _ => 1
  | .nil => 1
  | .ptr d => uptoBulk d + 1
  | .slice elems spare => uptoBulkAll elems + uptoBulkAll spare + 1
  | .agg parts => uptoBulkAll parts + 1
  | .iface _ d => uptoBulk d + 1
  | .map entries => uptoBulkEntries entries + 1
  | .held _ => 1
def uptoBulkAll {H : Type} : List (DataW H) → Nat
  | [] => 0
  | d :: r => uptoBulk d + uptoBulkAll r
def uptoBulkEntries {H : Type} : List (Lit × DataW H) → Nat
  | [] => 0
  | x :: r => uptoBulkEntry x + uptoBulkEntries r
def uptoBulkEntry {H : Type} : Lit × DataW H → Nat
  | (.string bytes, d) => bytes.length + uptoBulk d + 1
  | (_, d) => uptoBulk d + 1
 end
def uptoSmall : (H : Type) → List (DataW H) → Bool := fun _ ds => decide (uptoBulkAll ds ≤ 1048576)
def OpenSpec.upto (s : _root_.Go.ChangeSpec) : _root_.Go.OpenSpec := { _root_.Go.OpenSpec.ofChange s with cond := some uptoSmall }

/-- 'blockworkstop.TopWarmed', WHERE WHAT IT READS IS OF BULK AT MOST 1048576: true; the input reads as it did. -/
def topWarmedUptoRow : OpenClaim := { program := "ytipjgdkaocfapaa", sum := "265126d20870a98ab28223a16625dccf924bb9d4596680c5f3524519f276af5d", func := "blockworks/blockworkstop.TopWarmed", spec := "topWarmed", unfollowed := true, recurses := true, plainKeys := false, apart := false, narrowed := true }
def TopWarmedUptoSaid : Prop := topWarmedUptoRow.holds Try.pinned (OpenSpec.upto topWarmedSpec)

/-- 'blockworkslaw02.WarmReads', WHERE WHAT IT READS IS OF BULK AT MOST 1048576: true; the input reads as it did. -/
def warmReadsUptoRow : OpenClaim := { program := "ytipjgdkaocfapaa", sum := "265126d20870a98ab28223a16625dccf924bb9d4596680c5f3524519f276af5d", func := "blockworks/blockworkslaw02.WarmReads", spec := "warmReads", unfollowed := true, recurses := true, plainKeys := false, apart := false, narrowed := true }
def WarmReadsUptoSaid : Prop := warmReadsUptoRow.holds Try.pinned (OpenSpec.upto warmReadsSpec)

/-- 'blockworkslaw02.WarmLooks', WHERE WHAT IT READS IS OF BULK AT MOST 1048576: true; the input reads as it did. -/
def warmLooksUptoRow : OpenClaim := { program := "ytipjgdkaocfapaa", sum := "265126d20870a98ab28223a16625dccf924bb9d4596680c5f3524519f276af5d", func := "blockworks/blockworkslaw02.WarmLooks", spec := "warmLooks", unfollowed := true, recurses := true, plainKeys := false, apart := false, narrowed := true }
def WarmLooksUptoSaid : Prop := warmLooksUptoRow.holds Try.pinned (OpenSpec.upto warmLooksSpec)

/-- 'blockworkslaw02.WarmProves', WHERE WHAT IT READS IS OF BULK AT MOST 1048576: true; the input reads as it did. -/
def warmProvesUptoRow : OpenClaim := { program := "ytipjgdkaocfapaa", sum := "265126d20870a98ab28223a16625dccf924bb9d4596680c5f3524519f276af5d", func := "blockworks/blockworkslaw02.WarmProves", spec := "warmProves", unfollowed := true, recurses := true, plainKeys := false, apart := false, narrowed := true }
def WarmProvesUptoSaid : Prop := warmProvesUptoRow.holds Try.pinned (OpenSpec.upto warmProvesSpec)

/-- 'blockworkslaw02.WarmTrue', WHERE WHAT IT READS IS OF BULK AT MOST 1048576: true; the input reads as it did. -/
def warmTrueUptoRow : OpenClaim := { program := "ytipjgdkaocfapaa", sum := "265126d20870a98ab28223a16625dccf924bb9d4596680c5f3524519f276af5d", func := "blockworks/blockworkslaw02.WarmTrue", spec := "warmTrue", unfollowed := true, recurses := true, plainKeys := false, apart := false, narrowed := true }
def WarmTrueUptoSaid : Prop := warmTrueUptoRow.holds Try.pinned (OpenSpec.upto warmTrueSpec)

/-- 'blockworkslaw02.WarmPairs', WHERE WHAT IT READS IS OF BULK AT MOST 1048576: true; the input reads as it did. -/
def warmPairsUptoRow : OpenClaim := { program := "ytipjgdkaocfapaa", sum := "265126d20870a98ab28223a16625dccf924bb9d4596680c5f3524519f276af5d", func := "blockworks/blockworkslaw02.WarmPairs", spec := "warmPairs", unfollowed := true, recurses := true, plainKeys := false, apart := false, narrowed := true }
def WarmPairsUptoSaid : Prop := warmPairsUptoRow.holds Try.pinned (OpenSpec.upto warmPairsSpec)

/-- 'blockworkslaw02.WarmShows', WHERE WHAT IT READS IS OF BULK AT MOST 1048576: true; the input reads as it did. -/
def warmShowsUptoRow : OpenClaim := { program := "ytipjgdkaocfapaa", sum := "265126d20870a98ab28223a16625dccf924bb9d4596680c5f3524519f276af5d", func := "blockworks/blockworkslaw02.WarmShows", spec := "warmShows", unfollowed := true, recurses := true, plainKeys := false, apart := false, narrowed := true }
def WarmShowsUptoSaid : Prop := warmShowsUptoRow.holds Try.pinned (OpenSpec.upto warmShowsSpec)

/-- 'blockworkslaw02.WarmRoom', WHERE WHAT IT READS IS OF BULK AT MOST 1048576: true; the input reads as it did. -/
def warmRoomUptoRow : OpenClaim := { program := "ytipjgdkaocfapaa", sum := "265126d20870a98ab28223a16625dccf924bb9d4596680c5f3524519f276af5d", func := "blockworks/blockworkslaw02.WarmRoom", spec := "warmRoom", unfollowed := true, recurses := true, plainKeys := false, apart := false, narrowed := true }
def WarmRoomUptoSaid : Prop := warmRoomUptoRow.holds Try.pinned (OpenSpec.upto warmRoomSpec)

/-- 'blockworkslaw02.WarmNext', WHERE WHAT IT READS IS OF BULK AT MOST 1048576: true; the input reads as it did. -/
def warmNextUptoRow : OpenClaim := { program := "ytipjgdkaocfapaa", sum := "265126d20870a98ab28223a16625dccf924bb9d4596680c5f3524519f276af5d", func := "blockworks/blockworkslaw02.WarmNext", spec := "warmNext", unfollowed := true, recurses := true, plainKeys := false, apart := false, narrowed := true }
def WarmNextUptoSaid : Prop := warmNextUptoRow.holds Try.pinned (OpenSpec.upto warmNextSpec)

/-- 'blockworkslaw02.WarmClash', WHERE WHAT IT READS IS OF BULK AT MOST 1048576: true; the input reads as it did. -/
def warmClashUptoRow : OpenClaim := { program := "ytipjgdkaocfapaa", sum := "265126d20870a98ab28223a16625dccf924bb9d4596680c5f3524519f276af5d", func := "blockworks/blockworkslaw02.WarmClash", spec := "warmClash", unfollowed := true, recurses := true, plainKeys := false, apart := false, narrowed := true }
def WarmClashUptoSaid : Prop := warmClashUptoRow.holds Try.pinned (OpenSpec.upto warmClashSpec)

/-- 'blockworkslaw02.WarmMore', WHERE WHAT IT READS IS OF BULK AT MOST 1048576: true; the input reads as it did. -/
def warmMoreUptoRow : OpenClaim := { program := "ytipjgdkaocfapaa", sum := "265126d20870a98ab28223a16625dccf924bb9d4596680c5f3524519f276af5d", func := "blockworks/blockworkslaw02.WarmMore", spec := "warmMore", unfollowed := true, recurses := true, plainKeys := false, apart := false, narrowed := true }
def WarmMoreUptoSaid : Prop := warmMoreUptoRow.holds Try.pinned (OpenSpec.upto warmMoreSpec)

end Rows
end Go.Proofs.Ytipjgdkaocfapaa
